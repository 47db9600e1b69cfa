/-
  No cell of these rows narrows 'for every input' (looked for: loops, veiled, ifaces, maps, wideKeys, modest, calm, conditions, laid).
  DERIVED. THE GIVEN ROWS OF THIS SEAT. 9 by the template 'for every input the law returns true; each argument reads behind the call as it read before'; 0 by the template 'total and deterministic' (their statements: YtjceilhmgbdgiaaTotals.lean).
  GIVEN WITH THE SEED: the statements are not yours to turn. If you find one false, say at which input.
  Laid BY PROGRAM, IN A SANDBOX (cutbox-rows.mjs): the forced cells as the released guide's own fill.sh prints them over the translation 58480e4dbb9ca982… (all of the seat's roots in one cut). By AI agents, Wed Nov 11 2026. No macro, syntax, notation, axiom, sorry.
-/
import Derived.Test.YtjceilhmgbdgiaaChecked
import GoSem.Claim
import GoSem.ClaimJoined
import GoSem.ClaimMapViews
import Derived.JoinedTies
import Derived.KernelRfl
namespace Go.Proofs.Ytjceilhmgbdgiaa
/- THE CELL 'sum', in the pinned program and in every row, IS THE sha256 OF THE DUMP (.gsa) THAT YtjceilhmgbdgiaaProg.lean LOADS. Nothing in Lean hashes anything: it is a label: what it is worth is what the hold of that sum in a sandbox is worth. -/
noncomputable def Try.pinned : Pinned := { name := "ytjceilhmgbdgiaa", sum := "58480e4dbb9ca98288368b9b40bac27a95c28b901144d33b1b66a4993e3cacff", checked := Try.checked }
namespace Rows
def none {H : Type} : Left H := { results := [], args := [] }

/-- 'cashboxlaw25.MoveAsks': WHATEVER THE INPUT: true; the input reads as it did. -/
def moveAsksSpec : ChangeSpec := { name := "moveAsks", fn := fun _ => fun
  | [d1, d2, d3, d4] => { results := [.lit (.bool true)], args := [d1, d2, d3, d4] }
  | _ => none }
def moveAsksRow : OpenClaim := { program := "ytjceilhmgbdgiaa", sum := "58480e4dbb9ca98288368b9b40bac27a95c28b901144d33b1b66a4993e3cacff", func := "cashbox/cashboxlaw25.MoveAsks", spec := "moveAsks", unfollowed := true, recurses := true, plainKeys := false, apart := false }
def MoveAsksSaid : Prop := moveAsksRow.holds Try.pinned (OpenSpec.ofChange moveAsksSpec)

/-- ITS FALSE NEIGHBOUR: 'it returns false'. Refute it at one input. -/
def moveAsksWrong : ChangeSpec := { name := "moveAsks", fn := fun _ => fun
  | [d1, d2, d3, d4] => { results := [.lit (.bool false)], args := [d1, d2, d3, d4] }
  | _ => none }
def MoveAsksWrongFalsely : Prop := moveAsksRow.holds Try.pinned (OpenSpec.ofChange moveAsksWrong)

/-- 'cashboxlaw25.MoveTicks': WHATEVER THE INPUT: true; the input reads as it did. -/
def moveTicksSpec : ChangeSpec := { name := "moveTicks", fn := fun _ => fun
  | [d] => { results := [.lit (.bool true)], args := [d] }
  | _ => none }
def moveTicksRow : OpenClaim := { program := "ytjceilhmgbdgiaa", sum := "58480e4dbb9ca98288368b9b40bac27a95c28b901144d33b1b66a4993e3cacff", func := "cashbox/cashboxlaw25.MoveTicks", spec := "moveTicks", unfollowed := true, recurses := true, plainKeys := false, apart := false }
def MoveTicksSaid : Prop := moveTicksRow.holds Try.pinned (OpenSpec.ofChange moveTicksSpec)

/-- ITS FALSE NEIGHBOUR: 'it returns false'. Refute it at one input. -/
def moveTicksWrong : ChangeSpec := { name := "moveTicks", fn := fun _ => fun
  | [d] => { results := [.lit (.bool false)], args := [d] }
  | _ => none }
def MoveTicksWrongFalsely : Prop := moveTicksRow.holds Try.pinned (OpenSpec.ofChange moveTicksWrong)

/-- 'cashboxlaw21.CoordAsks': WHATEVER THE INPUT: true; the input reads as it did. -/
def coordAsksSpec : ChangeSpec := { name := "coordAsks", fn := fun _ => fun
  | [d1, d2, d3] => { results := [.lit (.bool true)], args := [d1, d2, d3] }
  | _ => none }
def coordAsksRow : OpenClaim := { program := "ytjceilhmgbdgiaa", sum := "58480e4dbb9ca98288368b9b40bac27a95c28b901144d33b1b66a4993e3cacff", func := "cashbox/cashboxlaw21.CoordAsks", spec := "coordAsks", inPlace := ["slices.overlaps[cashbox/api.Driven]"], unfollowed := true, recurses := true, plainKeys := false, apart := false }
def CoordAsksSaid : Prop := coordAsksRow.holds Try.pinned (OpenSpec.ofChange coordAsksSpec)

/-- ITS FALSE NEIGHBOUR: 'it returns false'. Refute it at one input. -/
def coordAsksWrong : ChangeSpec := { name := "coordAsks", fn := fun _ => fun
  | [d1, d2, d3] => { results := [.lit (.bool false)], args := [d1, d2, d3] }
  | _ => none }
def CoordAsksWrongFalsely : Prop := coordAsksRow.holds Try.pinned (OpenSpec.ofChange coordAsksWrong)

/-- 'cashboxlaw21.CoordAll': WHATEVER THE INPUT: true; the input reads as it did. -/
def coordAllSpec : ChangeSpec := { name := "coordAll", fn := fun _ => fun
  | [d1, d2, d3] => { results := [.lit (.bool true)], args := [d1, d2, d3] }
  | _ => none }
def coordAllRow : OpenClaim := { program := "ytjceilhmgbdgiaa", sum := "58480e4dbb9ca98288368b9b40bac27a95c28b901144d33b1b66a4993e3cacff", func := "cashbox/cashboxlaw21.CoordAll", spec := "coordAll", inPlace := ["slices.overlaps[cashbox/api.Driven]"], unfollowed := true, recurses := true, plainKeys := false, apart := false }
def CoordAllSaid : Prop := coordAllRow.holds Try.pinned (OpenSpec.ofChange coordAllSpec)

/-- ITS FALSE NEIGHBOUR: 'it returns false'. Refute it at one input. -/
def coordAllWrong : ChangeSpec := { name := "coordAll", fn := fun _ => fun
  | [d1, d2, d3] => { results := [.lit (.bool false)], args := [d1, d2, d3] }
  | _ => none }
def CoordAllWrongFalsely : Prop := coordAllRow.holds Try.pinned (OpenSpec.ofChange coordAllWrong)

/-- 'cashboxlaw21.CoordTicks': WHATEVER THE INPUT: true; the input reads as it did. -/
def coordTicksSpec : ChangeSpec := { name := "coordTicks", fn := fun _ => fun
  | [d] => { results := [.lit (.bool true)], args := [d] }
  | _ => none }
def coordTicksRow : OpenClaim := { program := "ytjceilhmgbdgiaa", sum := "58480e4dbb9ca98288368b9b40bac27a95c28b901144d33b1b66a4993e3cacff", func := "cashbox/cashboxlaw21.CoordTicks", spec := "coordTicks", inPlace := ["slices.overlaps[cashbox/api.Driven]"], unfollowed := true, recurses := true, plainKeys := false, apart := false }
def CoordTicksSaid : Prop := coordTicksRow.holds Try.pinned (OpenSpec.ofChange coordTicksSpec)

/-- ITS FALSE NEIGHBOUR: 'it returns false'. Refute it at one input. -/
def coordTicksWrong : ChangeSpec := { name := "coordTicks", fn := fun _ => fun
  | [d] => { results := [.lit (.bool false)], args := [d] }
  | _ => none }
def CoordTicksWrongFalsely : Prop := coordTicksRow.holds Try.pinned (OpenSpec.ofChange coordTicksWrong)

/-- 'cashboxlaw16.FabricBytes': WHATEVER THE INPUT: true; the input reads as it did. -/
def fabricBytesSpec : ChangeSpec := { name := "fabricBytes", fn := fun _ => fun
  | [d1, d2] => { results := [.lit (.bool true)], args := [d1, d2] }
  | _ => none }
def fabricBytesRow : OpenClaim := { program := "ytjceilhmgbdgiaa", sum := "58480e4dbb9ca98288368b9b40bac27a95c28b901144d33b1b66a4993e3cacff", func := "cashbox/cashboxlaw16.FabricBytes", spec := "fabricBytes", unfollowed := true, recurses := true, plainKeys := false, apart := false }
def FabricBytesSaid : Prop := fabricBytesRow.holds Try.pinned (OpenSpec.ofChange fabricBytesSpec)

/-- ITS FALSE NEIGHBOUR: 'it returns false'. Refute it at one input. -/
def fabricBytesWrong : ChangeSpec := { name := "fabricBytes", fn := fun _ => fun
  | [d1, d2] => { results := [.lit (.bool false)], args := [d1, d2] }
  | _ => none }
def FabricBytesWrongFalsely : Prop := fabricBytesRow.holds Try.pinned (OpenSpec.ofChange fabricBytesWrong)

/-- 'cashboxlaw16.FabricBack': WHATEVER THE INPUT: true; the input reads as it did. -/
def fabricBackSpec : ChangeSpec := { name := "fabricBack", fn := fun _ => fun
  | [d1, d2, d3] => { results := [.lit (.bool true)], args := [d1, d2, d3] }
  | _ => none }
def fabricBackRow : OpenClaim := { program := "ytjceilhmgbdgiaa", sum := "58480e4dbb9ca98288368b9b40bac27a95c28b901144d33b1b66a4993e3cacff", func := "cashbox/cashboxlaw16.FabricBack", spec := "fabricBack", unfollowed := true, recurses := true, plainKeys := false, apart := false }
def FabricBackSaid : Prop := fabricBackRow.holds Try.pinned (OpenSpec.ofChange fabricBackSpec)

/-- ITS FALSE NEIGHBOUR: 'it returns false'. Refute it at one input. -/
def fabricBackWrong : ChangeSpec := { name := "fabricBack", fn := fun _ => fun
  | [d1, d2, d3] => { results := [.lit (.bool false)], args := [d1, d2, d3] }
  | _ => none }
def FabricBackWrongFalsely : Prop := fabricBackRow.holds Try.pinned (OpenSpec.ofChange fabricBackWrong)

/-- 'cashboxlaw24.SessionNumbers': WHATEVER THE INPUT: true; the input reads as it did. -/
def sessionNumbersSpec : ChangeSpec := { name := "sessionNumbers", fn := fun _ => fun
  | [d1, d2] => { results := [.lit (.bool true)], args := [d1, d2] }
  | _ => none }
def sessionNumbersRow : OpenClaim := { program := "ytjceilhmgbdgiaa", sum := "58480e4dbb9ca98288368b9b40bac27a95c28b901144d33b1b66a4993e3cacff", func := "cashbox/cashboxlaw24.SessionNumbers", spec := "sessionNumbers", unfollowed := true, recurses := true, plainKeys := false, apart := false }
def SessionNumbersSaid : Prop := sessionNumbersRow.holds Try.pinned (OpenSpec.ofChange sessionNumbersSpec)

/-- ITS FALSE NEIGHBOUR: 'it returns false'. Refute it at one input. -/
def sessionNumbersWrong : ChangeSpec := { name := "sessionNumbers", fn := fun _ => fun
  | [d1, d2] => { results := [.lit (.bool false)], args := [d1, d2] }
  | _ => none }
def SessionNumbersWrongFalsely : Prop := sessionNumbersRow.holds Try.pinned (OpenSpec.ofChange sessionNumbersWrong)

/-- 'cashboxlaw24.SessionOnce': WHATEVER THE INPUT: true; the input reads as it did. -/
def sessionOnceSpec : ChangeSpec := { name := "sessionOnce", fn := fun _ => fun
  | [d1, d2] => { results := [.lit (.bool true)], args := [d1, d2] }
  | _ => none }
def sessionOnceRow : OpenClaim := { program := "ytjceilhmgbdgiaa", sum := "58480e4dbb9ca98288368b9b40bac27a95c28b901144d33b1b66a4993e3cacff", func := "cashbox/cashboxlaw24.SessionOnce", spec := "sessionOnce", unfollowed := true, recurses := true, plainKeys := false, apart := false }
def SessionOnceSaid : Prop := sessionOnceRow.holds Try.pinned (OpenSpec.ofChange sessionOnceSpec)

/-- ITS FALSE NEIGHBOUR: 'it returns false'. Refute it at one input. -/
def sessionOnceWrong : ChangeSpec := { name := "sessionOnce", fn := fun _ => fun
  | [d1, d2] => { results := [.lit (.bool false)], args := [d1, d2] }
  | _ => none }
def SessionOnceWrongFalsely : Prop := sessionOnceRow.holds Try.pinned (OpenSpec.ofChange sessionOnceWrong)

/- THE SECOND FORM. 'bulk': how many values and letters a reading holds, each counted each time it is reached (what is shared counts as often as it is met; a slice's spare places count too). A statement '..UptoSaid' is the law's where the arguments, and the package variables that the reading takes, are together of bulk at most 1048576: NARROWER than '..Said'. Prove '..Said' where nothing that the law and all that it calls make is longer than what came in: it says more and counts as full. Else prove '..UptoSaid'. A law counts once. -/
mutual
def uptoBulk {H : Type} : DataW H → Nat
  | .lit (.string bytes) => bytes.length + 1
  | .lit _ => 1
  | .nil => 1
  | .ptr d => uptoBulk d + 1
  | .slice elems spare => uptoBulkAll elems + uptoBulkAll spare + 1
  | .agg parts => uptoBulkAll parts + 1
  | .iface _ d => uptoBulk d + 1
  | .map entries => uptoBulkEntries entries + 1
  | .held _ => 1
def uptoBulkAll {H : Type} : List (DataW H) → Nat
  | [] => 0
  | d :: r => uptoBulk d + uptoBulkAll r
def uptoBulkEntries {H : Type} : List (Lit × DataW H) → Nat
  | [] => 0
  | x :: r => uptoBulkEntry x + uptoBulkEntries r
def uptoBulkEntry {H : Type} : Lit × DataW H → Nat
  | (.string bytes, d) => bytes.length + uptoBulk d + 1
  | (_, d) => uptoBulk d + 1
 end
def uptoSmall : (H : Type) → List (DataW H) → Bool := fun _ ds => decide (uptoBulkAll ds ≤ 1048576)
def OpenSpec.upto (s : _root_.Go.ChangeSpec) : _root_.Go.OpenSpec := { _root_.Go.OpenSpec.ofChange s with cond := some uptoSmall }

/-- 'cashboxlaw25.MoveAsks', WHERE WHAT IT READS IS OF BULK AT MOST 1048576: true; the input reads as it did. -/
def moveAsksUptoRow : OpenClaim := { program := "ytjceilhmgbdgiaa", sum := "58480e4dbb9ca98288368b9b40bac27a95c28b901144d33b1b66a4993e3cacff", func := "cashbox/cashboxlaw25.MoveAsks", spec := "moveAsks", unfollowed := true, recurses := true, plainKeys := false, apart := false, narrowed := true }
def MoveAsksUptoSaid : Prop := moveAsksUptoRow.holds Try.pinned (OpenSpec.upto moveAsksSpec)

/-- 'cashboxlaw25.MoveTicks', WHERE WHAT IT READS IS OF BULK AT MOST 1048576: true; the input reads as it did. -/
def moveTicksUptoRow : OpenClaim := { program := "ytjceilhmgbdgiaa", sum := "58480e4dbb9ca98288368b9b40bac27a95c28b901144d33b1b66a4993e3cacff", func := "cashbox/cashboxlaw25.MoveTicks", spec := "moveTicks", unfollowed := true, recurses := true, plainKeys := false, apart := false, narrowed := true }
def MoveTicksUptoSaid : Prop := moveTicksUptoRow.holds Try.pinned (OpenSpec.upto moveTicksSpec)

/-- 'cashboxlaw21.CoordAsks', WHERE WHAT IT READS IS OF BULK AT MOST 1048576: true; the input reads as it did. -/
def coordAsksUptoRow : OpenClaim := { program := "ytjceilhmgbdgiaa", sum := "58480e4dbb9ca98288368b9b40bac27a95c28b901144d33b1b66a4993e3cacff", func := "cashbox/cashboxlaw21.CoordAsks", spec := "coordAsks", inPlace := ["slices.overlaps[cashbox/api.Driven]"], unfollowed := true, recurses := true, plainKeys := false, apart := false, narrowed := true }
def CoordAsksUptoSaid : Prop := coordAsksUptoRow.holds Try.pinned (OpenSpec.upto coordAsksSpec)

/-- 'cashboxlaw21.CoordAll', WHERE WHAT IT READS IS OF BULK AT MOST 1048576: true; the input reads as it did. -/
def coordAllUptoRow : OpenClaim := { program := "ytjceilhmgbdgiaa", sum := "58480e4dbb9ca98288368b9b40bac27a95c28b901144d33b1b66a4993e3cacff", func := "cashbox/cashboxlaw21.CoordAll", spec := "coordAll", inPlace := ["slices.overlaps[cashbox/api.Driven]"], unfollowed := true, recurses := true, plainKeys := false, apart := false, narrowed := true }
def CoordAllUptoSaid : Prop := coordAllUptoRow.holds Try.pinned (OpenSpec.upto coordAllSpec)

/-- 'cashboxlaw21.CoordTicks', WHERE WHAT IT READS IS OF BULK AT MOST 1048576: true; the input reads as it did. -/
def coordTicksUptoRow : OpenClaim := { program := "ytjceilhmgbdgiaa", sum := "58480e4dbb9ca98288368b9b40bac27a95c28b901144d33b1b66a4993e3cacff", func := "cashbox/cashboxlaw21.CoordTicks", spec := "coordTicks", inPlace := ["slices.overlaps[cashbox/api.Driven]"], unfollowed := true, recurses := true, plainKeys := false, apart := false, narrowed := true }
def CoordTicksUptoSaid : Prop := coordTicksUptoRow.holds Try.pinned (OpenSpec.upto coordTicksSpec)

/-- 'cashboxlaw16.FabricBytes', WHERE WHAT IT READS IS OF BULK AT MOST 1048576: true; the input reads as it did. -/
def fabricBytesUptoRow : OpenClaim := { program := "ytjceilhmgbdgiaa", sum := "58480e4dbb9ca98288368b9b40bac27a95c28b901144d33b1b66a4993e3cacff", func := "cashbox/cashboxlaw16.FabricBytes", spec := "fabricBytes", unfollowed := true, recurses := true, plainKeys := false, apart := false, narrowed := true }
def FabricBytesUptoSaid : Prop := fabricBytesUptoRow.holds Try.pinned (OpenSpec.upto fabricBytesSpec)

/-- 'cashboxlaw16.FabricBack', WHERE WHAT IT READS IS OF BULK AT MOST 1048576: true; the input reads as it did. -/
def fabricBackUptoRow : OpenClaim := { program := "ytjceilhmgbdgiaa", sum := "58480e4dbb9ca98288368b9b40bac27a95c28b901144d33b1b66a4993e3cacff", func := "cashbox/cashboxlaw16.FabricBack", spec := "fabricBack", unfollowed := true, recurses := true, plainKeys := false, apart := false, narrowed := true }
def FabricBackUptoSaid : Prop := fabricBackUptoRow.holds Try.pinned (OpenSpec.upto fabricBackSpec)

/-- 'cashboxlaw24.SessionNumbers', WHERE WHAT IT READS IS OF BULK AT MOST 1048576: true; the input reads as it did. -/
def sessionNumbersUptoRow : OpenClaim := { program := "ytjceilhmgbdgiaa", sum := "58480e4dbb9ca98288368b9b40bac27a95c28b901144d33b1b66a4993e3cacff", func := "cashbox/cashboxlaw24.SessionNumbers", spec := "sessionNumbers", unfollowed := true, recurses := true, plainKeys := false, apart := false, narrowed := true }
def SessionNumbersUptoSaid : Prop := sessionNumbersUptoRow.holds Try.pinned (OpenSpec.upto sessionNumbersSpec)

/-- 'cashboxlaw24.SessionOnce', WHERE WHAT IT READS IS OF BULK AT MOST 1048576: true; the input reads as it did. -/
def sessionOnceUptoRow : OpenClaim := { program := "ytjceilhmgbdgiaa", sum := "58480e4dbb9ca98288368b9b40bac27a95c28b901144d33b1b66a4993e3cacff", func := "cashbox/cashboxlaw24.SessionOnce", spec := "sessionOnce", unfollowed := true, recurses := true, plainKeys := false, apart := false, narrowed := true }
def SessionOnceUptoSaid : Prop := sessionOnceUptoRow.holds Try.pinned (OpenSpec.upto sessionOnceSpec)

end Rows
end Go.Proofs.Ytjceilhmgbdgiaa

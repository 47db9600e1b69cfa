/-
  No cell of these rows narrows 'for every input' (looked for: loops, veiled, ifaces, maps, wideKeys, modest, calm, conditions, laid).
  DERIVED. THE GIVEN ROWS OF THIS SEAT. 6 by the template 'for every input the law returns true; each argument reads behind the call as it read before'; 0 by the template 'total and deterministic' (their statements: YtbmcgfdopaaiiaaTotals.lean).
  GIVEN WITH THE SEED: the statements are not yours to turn. If you find one false, say at which input.
  Laid BY PROGRAM, IN A SANDBOX (cutbox-rows.mjs): the forced cells as the released guide's own fill.sh prints them over the translation 91ae99cf2bda14a5… (all of the seat's roots in one cut). By AI agents, Wed Nov 11 2026. No macro, syntax, notation, axiom, sorry.
-/
import Derived.Test.YtbmcgfdopaaiiaaChecked
import GoSem.Claim
import GoSem.ClaimJoined
import GoSem.ClaimMapViews
import Derived.JoinedTies
import Derived.KernelRfl
namespace Go.Proofs.Ytbmcgfdopaaiiaa
/- THE CELL 'sum', in the pinned program and in every row, IS THE sha256 OF THE DUMP (.gsa) THAT YtbmcgfdopaaiiaaProg.lean LOADS. Nothing in Lean hashes anything: it is a label: what it is worth is what the hold of that sum in a sandbox is worth. -/
noncomputable def Try.pinned : Pinned := { name := "ytbmcgfdopaaiiaa", sum := "91ae99cf2bda14a56b3c0c461f7091ed30dad1ce71867c53de6edc17744f5752", checked := Try.checked }
namespace Rows
def none {H : Type} : Left H := { results := [], args := [] }

/-- 'cashboxlaw17.EpochRises': WHATEVER THE INPUT: true; the input reads as it did. -/
def epochRisesSpec : ChangeSpec := { name := "epochRises", fn := fun _ => fun
  | [d1, d2] => { results := [.lit (.bool true)], args := [d1, d2] }
  | _ => none }
def epochRisesRow : OpenClaim := { program := "ytbmcgfdopaaiiaa", sum := "91ae99cf2bda14a56b3c0c461f7091ed30dad1ce71867c53de6edc17744f5752", func := "cashbox/cashboxlaw17.EpochRises", spec := "epochRises", unfollowed := true, recurses := true, apart := false }
def EpochRisesSaid : Prop := epochRisesRow.holds Try.pinned (OpenSpec.ofChange epochRisesSpec)

/-- ITS FALSE NEIGHBOUR: 'it returns false'. Refute it at one input. -/
def epochRisesWrong : ChangeSpec := { name := "epochRises", fn := fun _ => fun
  | [d1, d2] => { results := [.lit (.bool false)], args := [d1, d2] }
  | _ => none }
def EpochRisesWrongFalsely : Prop := epochRisesRow.holds Try.pinned (OpenSpec.ofChange epochRisesWrong)

/-- 'cashboxlaw17.EpochOld': WHATEVER THE INPUT: true; the input reads as it did. -/
def epochOldSpec : ChangeSpec := { name := "epochOld", fn := fun _ => fun
  | [d1, d2] => { results := [.lit (.bool true)], args := [d1, d2] }
  | _ => none }
def epochOldRow : OpenClaim := { program := "ytbmcgfdopaaiiaa", sum := "91ae99cf2bda14a56b3c0c461f7091ed30dad1ce71867c53de6edc17744f5752", func := "cashbox/cashboxlaw17.EpochOld", spec := "epochOld", unfollowed := true, recurses := true, apart := false }
def EpochOldSaid : Prop := epochOldRow.holds Try.pinned (OpenSpec.ofChange epochOldSpec)

/-- ITS FALSE NEIGHBOUR: 'it returns false'. Refute it at one input. -/
def epochOldWrong : ChangeSpec := { name := "epochOld", fn := fun _ => fun
  | [d1, d2] => { results := [.lit (.bool false)], args := [d1, d2] }
  | _ => none }
def EpochOldWrongFalsely : Prop := epochOldRow.holds Try.pinned (OpenSpec.ofChange epochOldWrong)

/-- 'cashboxlaw17.EpochMeets': WHATEVER THE INPUT: true; the input reads as it did. -/
def epochMeetsSpec : ChangeSpec := { name := "epochMeets", fn := fun _ => fun
  | [d1, d2, d3] => { results := [.lit (.bool true)], args := [d1, d2, d3] }
  | _ => none }
def epochMeetsRow : OpenClaim := { program := "ytbmcgfdopaaiiaa", sum := "91ae99cf2bda14a56b3c0c461f7091ed30dad1ce71867c53de6edc17744f5752", func := "cashbox/cashboxlaw17.EpochMeets", spec := "epochMeets", unfollowed := true, recurses := true, apart := false }
def EpochMeetsSaid : Prop := epochMeetsRow.holds Try.pinned (OpenSpec.ofChange epochMeetsSpec)

/-- ITS FALSE NEIGHBOUR: 'it returns false'. Refute it at one input. -/
def epochMeetsWrong : ChangeSpec := { name := "epochMeets", fn := fun _ => fun
  | [d1, d2, d3] => { results := [.lit (.bool false)], args := [d1, d2, d3] }
  | _ => none }
def EpochMeetsWrongFalsely : Prop := epochMeetsRow.holds Try.pinned (OpenSpec.ofChange epochMeetsWrong)

/-- 'cashboxlaw15.WireWays': WHATEVER THE INPUT: true; the input reads as it did. -/
def wireWaysSpec : ChangeSpec := { name := "wireWays", fn := fun _ => fun
  | [d] => { results := [.lit (.bool true)], args := [d] }
  | _ => none }
def wireWaysRow : OpenClaim := { program := "ytbmcgfdopaaiiaa", sum := "91ae99cf2bda14a56b3c0c461f7091ed30dad1ce71867c53de6edc17744f5752", func := "cashbox/cashboxlaw15.WireWays", spec := "wireWays", unfollowed := true, recurses := true, apart := false }
def WireWaysSaid : Prop := wireWaysRow.holds Try.pinned (OpenSpec.ofChange wireWaysSpec)

/-- ITS FALSE NEIGHBOUR: 'it returns false'. Refute it at one input. -/
def wireWaysWrong : ChangeSpec := { name := "wireWays", fn := fun _ => fun
  | [d] => { results := [.lit (.bool false)], args := [d] }
  | _ => none }
def WireWaysWrongFalsely : Prop := wireWaysRow.holds Try.pinned (OpenSpec.ofChange wireWaysWrong)

/-- 'cashboxlaw15.WireReads': WHATEVER THE INPUT: true; the input reads as it did. -/
def wireReadsSpec : ChangeSpec := { name := "wireReads", fn := fun _ => fun
  | [d] => { results := [.lit (.bool true)], args := [d] }
  | _ => none }
def wireReadsRow : OpenClaim := { program := "ytbmcgfdopaaiiaa", sum := "91ae99cf2bda14a56b3c0c461f7091ed30dad1ce71867c53de6edc17744f5752", func := "cashbox/cashboxlaw15.WireReads", spec := "wireReads", unfollowed := true, recurses := true, apart := false }
def WireReadsSaid : Prop := wireReadsRow.holds Try.pinned (OpenSpec.ofChange wireReadsSpec)

/-- ITS FALSE NEIGHBOUR: 'it returns false'. Refute it at one input. -/
def wireReadsWrong : ChangeSpec := { name := "wireReads", fn := fun _ => fun
  | [d] => { results := [.lit (.bool false)], args := [d] }
  | _ => none }
def WireReadsWrongFalsely : Prop := wireReadsRow.holds Try.pinned (OpenSpec.ofChange wireReadsWrong)

/-- 'cashboxlaw15.WireBack': WHATEVER THE INPUT: true; the input reads as it did. -/
def wireBackSpec : ChangeSpec := { name := "wireBack", fn := fun _ => fun
  | [d1, d2, d3] => { results := [.lit (.bool true)], args := [d1, d2, d3] }
  | _ => none }
def wireBackRow : OpenClaim := { program := "ytbmcgfdopaaiiaa", sum := "91ae99cf2bda14a56b3c0c461f7091ed30dad1ce71867c53de6edc17744f5752", func := "cashbox/cashboxlaw15.WireBack", spec := "wireBack", unfollowed := true, recurses := true, apart := false }
def WireBackSaid : Prop := wireBackRow.holds Try.pinned (OpenSpec.ofChange wireBackSpec)

/-- ITS FALSE NEIGHBOUR: 'it returns false'. Refute it at one input. -/
def wireBackWrong : ChangeSpec := { name := "wireBack", fn := fun _ => fun
  | [d1, d2, d3] => { results := [.lit (.bool false)], args := [d1, d2, d3] }
  | _ => none }
def WireBackWrongFalsely : Prop := wireBackRow.holds Try.pinned (OpenSpec.ofChange wireBackWrong)

/- THE SECOND FORM. 'bulk': how many values and letters a reading holds, each counted each time it is reached (what is shared counts as often as it is met; a slice's spare places count too). A statement '..UptoSaid' is the law's where the arguments, and the package variables that the reading takes, are together of bulk at most 1048576: NARROWER than '..Said'. Prove '..Said' where nothing that the law and all that it calls make is longer than what came in: it says more and counts as full. Else prove '..UptoSaid'. A law counts once. -/
mutual
def uptoBulk {H : Type} : DataW H → Nat
  | .lit (.string bytes) => bytes.length + 1
  | .lit _ => 1
  | .nil => 1
  | .ptr d => uptoBulk d + 1
  | .slice elems spare => uptoBulkAll elems + uptoBulkAll spare + 1
  | .agg parts => uptoBulkAll parts + 1
  | .iface _ d => uptoBulk d + 1
  | .map entries => uptoBulkEntries entries + 1
  | .held _ => 1
def uptoBulkAll {H : Type} : List (DataW H) → Nat
  | [] => 0
  | d :: r => uptoBulk d + uptoBulkAll r
def uptoBulkEntries {H : Type} : List (Lit × DataW H) → Nat
  | [] => 0
  | x :: r => uptoBulkEntry x + uptoBulkEntries r
def uptoBulkEntry {H : Type} : Lit × DataW H → Nat
  | (.string bytes, d) => bytes.length + uptoBulk d + 1
  | (_, d) => uptoBulk d + 1
 end
def uptoSmall : (H : Type) → List (DataW H) → Bool := fun _ ds => decide (uptoBulkAll ds ≤ 1048576)
def OpenSpec.upto (s : _root_.Go.ChangeSpec) : _root_.Go.OpenSpec := { _root_.Go.OpenSpec.ofChange s with cond := some uptoSmall }

/-- 'cashboxlaw17.EpochRises', WHERE WHAT IT READS IS OF BULK AT MOST 1048576: true; the input reads as it did. -/
def epochRisesUptoRow : OpenClaim := { program := "ytbmcgfdopaaiiaa", sum := "91ae99cf2bda14a56b3c0c461f7091ed30dad1ce71867c53de6edc17744f5752", func := "cashbox/cashboxlaw17.EpochRises", spec := "epochRises", unfollowed := true, recurses := true, apart := false, narrowed := true }
def EpochRisesUptoSaid : Prop := epochRisesUptoRow.holds Try.pinned (OpenSpec.upto epochRisesSpec)

/-- 'cashboxlaw17.EpochOld', WHERE WHAT IT READS IS OF BULK AT MOST 1048576: true; the input reads as it did. -/
def epochOldUptoRow : OpenClaim := { program := "ytbmcgfdopaaiiaa", sum := "91ae99cf2bda14a56b3c0c461f7091ed30dad1ce71867c53de6edc17744f5752", func := "cashbox/cashboxlaw17.EpochOld", spec := "epochOld", unfollowed := true, recurses := true, apart := false, narrowed := true }
def EpochOldUptoSaid : Prop := epochOldUptoRow.holds Try.pinned (OpenSpec.upto epochOldSpec)

/-- 'cashboxlaw17.EpochMeets', WHERE WHAT IT READS IS OF BULK AT MOST 1048576: true; the input reads as it did. -/
def epochMeetsUptoRow : OpenClaim := { program := "ytbmcgfdopaaiiaa", sum := "91ae99cf2bda14a56b3c0c461f7091ed30dad1ce71867c53de6edc17744f5752", func := "cashbox/cashboxlaw17.EpochMeets", spec := "epochMeets", unfollowed := true, recurses := true, apart := false, narrowed := true }
def EpochMeetsUptoSaid : Prop := epochMeetsUptoRow.holds Try.pinned (OpenSpec.upto epochMeetsSpec)

/-- 'cashboxlaw15.WireWays', WHERE WHAT IT READS IS OF BULK AT MOST 1048576: true; the input reads as it did. -/
def wireWaysUptoRow : OpenClaim := { program := "ytbmcgfdopaaiiaa", sum := "91ae99cf2bda14a56b3c0c461f7091ed30dad1ce71867c53de6edc17744f5752", func := "cashbox/cashboxlaw15.WireWays", spec := "wireWays", unfollowed := true, recurses := true, apart := false, narrowed := true }
def WireWaysUptoSaid : Prop := wireWaysUptoRow.holds Try.pinned (OpenSpec.upto wireWaysSpec)

/-- 'cashboxlaw15.WireReads', WHERE WHAT IT READS IS OF BULK AT MOST 1048576: true; the input reads as it did. -/
def wireReadsUptoRow : OpenClaim := { program := "ytbmcgfdopaaiiaa", sum := "91ae99cf2bda14a56b3c0c461f7091ed30dad1ce71867c53de6edc17744f5752", func := "cashbox/cashboxlaw15.WireReads", spec := "wireReads", unfollowed := true, recurses := true, apart := false, narrowed := true }
def WireReadsUptoSaid : Prop := wireReadsUptoRow.holds Try.pinned (OpenSpec.upto wireReadsSpec)

/-- 'cashboxlaw15.WireBack', WHERE WHAT IT READS IS OF BULK AT MOST 1048576: true; the input reads as it did. -/
def wireBackUptoRow : OpenClaim := { program := "ytbmcgfdopaaiiaa", sum := "91ae99cf2bda14a56b3c0c461f7091ed30dad1ce71867c53de6edc17744f5752", func := "cashbox/cashboxlaw15.WireBack", spec := "wireBack", unfollowed := true, recurses := true, apart := false, narrowed := true }
def WireBackUptoSaid : Prop := wireBackUptoRow.holds Try.pinned (OpenSpec.upto wireBackSpec)

end Rows
end Go.Proofs.Ytbmcgfdopaaiiaa

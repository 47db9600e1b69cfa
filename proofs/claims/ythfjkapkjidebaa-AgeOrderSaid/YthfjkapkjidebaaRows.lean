/-
  No cell of these rows narrows 'for every input' (looked for: loops, veiled, ifaces, maps, wideKeys, modest, calm, conditions, laid).
  DERIVED. THE GIVEN ROWS OF THIS SEAT. 4 by the template 'for every input the law returns true; each argument reads behind the call as it read before'; 0 by the template 'total and deterministic' (their statements: YthfjkapkjidebaaTotals.lean).
  GIVEN WITH THE SEED: the statements are not yours to turn. If you find one false, say at which input.
  Laid BY PROGRAM, IN A SANDBOX (cutbox-rows.mjs): the forced cells as the released guide's own fill.sh prints them over the translation 6ac52bb6e3f20e24… (all of the seat's roots in one cut). By AI agents, Wed Nov 11 2026. No macro, syntax, notation, axiom, sorry.
-/
import Derived.Test.YthfjkapkjidebaaChecked
import GoSem.Claim
import GoSem.ClaimJoined
import GoSem.ClaimMapViews
import Derived.JoinedTies
import Derived.KernelRfl
namespace Go.Proofs.Ythfjkapkjidebaa
/- THE CELL 'sum', in the pinned program and in every row, IS THE sha256 OF THE DUMP (.gsa) THAT YthfjkapkjidebaaProg.lean LOADS. Nothing in Lean hashes anything: it is a label: what it is worth is what the hold of that sum in a sandbox is worth. -/
noncomputable def Try.pinned : Pinned := { name := "ythfjkapkjidebaa", sum := "6ac52bb6e3f20e2486d533b03d3b8a2da9a4743eb2d9ea8fcf80558c11edf120", checked := Try.checked }
namespace Rows
def none {H : Type} : Left H := { results := [], args := [] }

/-- 'cashboxlaw12.AgeOrder': WHATEVER THE INPUT: true; the input reads as it did. -/
def ageOrderSpec : ChangeSpec := { name := "ageOrder", fn := fun _ => fun
  | [d1, d2, d3, d4] => { results := [.lit (.bool true)], args := [d1, d2, d3, d4] }
  | _ => none }
def ageOrderRow : OpenClaim := { program := "ythfjkapkjidebaa", sum := "6ac52bb6e3f20e2486d533b03d3b8a2da9a4743eb2d9ea8fcf80558c11edf120", func := "cashbox/cashboxlaw12.AgeOrder", spec := "ageOrder", unfollowed := true, recurses := true, plainKeys := false, apart := false }
def AgeOrderSaid : Prop := ageOrderRow.holds Try.pinned (OpenSpec.ofChange ageOrderSpec)

/-- ITS FALSE NEIGHBOUR: 'it returns false'. Refute it at one input. -/
def ageOrderWrong : ChangeSpec := { name := "ageOrder", fn := fun _ => fun
  | [d1, d2, d3, d4] => { results := [.lit (.bool false)], args := [d1, d2, d3, d4] }
  | _ => none }
def AgeOrderWrongFalsely : Prop := ageOrderRow.holds Try.pinned (OpenSpec.ofChange ageOrderWrong)

/-- 'cashboxlaw14.GraphMore': WHATEVER THE INPUT: true; the input reads as it did. -/
def graphMoreSpec : ChangeSpec := { name := "graphMore", fn := fun _ => fun
  | [d1, d2, d3] => { results := [.lit (.bool true)], args := [d1, d2, d3] }
  | _ => none }
def graphMoreRow : OpenClaim := { program := "ythfjkapkjidebaa", sum := "6ac52bb6e3f20e2486d533b03d3b8a2da9a4743eb2d9ea8fcf80558c11edf120", func := "cashbox/cashboxlaw14.GraphMore", spec := "graphMore", unfollowed := true, recurses := true, plainKeys := false, apart := false }
def GraphMoreSaid : Prop := graphMoreRow.holds Try.pinned (OpenSpec.ofChange graphMoreSpec)

/-- ITS FALSE NEIGHBOUR: 'it returns false'. Refute it at one input. -/
def graphMoreWrong : ChangeSpec := { name := "graphMore", fn := fun _ => fun
  | [d1, d2, d3] => { results := [.lit (.bool false)], args := [d1, d2, d3] }
  | _ => none }
def GraphMoreWrongFalsely : Prop := graphMoreRow.holds Try.pinned (OpenSpec.ofChange graphMoreWrong)

/-- 'cashboxlaw13.LockAlone': WHATEVER THE INPUT: true; the input reads as it did. -/
def lockAloneSpec : ChangeSpec := { name := "lockAlone", fn := fun _ => fun
  | [d1, d2, d3] => { results := [.lit (.bool true)], args := [d1, d2, d3] }
  | _ => none }
def lockAloneRow : OpenClaim := { program := "ythfjkapkjidebaa", sum := "6ac52bb6e3f20e2486d533b03d3b8a2da9a4743eb2d9ea8fcf80558c11edf120", func := "cashbox/cashboxlaw13.LockAlone", spec := "lockAlone", inPlace := ["slices.overlaps[cashbox/api.Lock]"], unfollowed := true, recurses := true, plainKeys := false, apart := false }
def LockAloneSaid : Prop := lockAloneRow.holds Try.pinned (OpenSpec.ofChange lockAloneSpec)

/-- ITS FALSE NEIGHBOUR: 'it returns false'. Refute it at one input. -/
def lockAloneWrong : ChangeSpec := { name := "lockAlone", fn := fun _ => fun
  | [d1, d2, d3] => { results := [.lit (.bool false)], args := [d1, d2, d3] }
  | _ => none }
def LockAloneWrongFalsely : Prop := lockAloneRow.holds Try.pinned (OpenSpec.ofChange lockAloneWrong)

/-- 'cashboxlaw13.LockWaits': WHATEVER THE INPUT: true; the input reads as it did. -/
def lockWaitsSpec : ChangeSpec := { name := "lockWaits", fn := fun _ => fun
  | [d] => { results := [.lit (.bool true)], args := [d] }
  | _ => none }
def lockWaitsRow : OpenClaim := { program := "ythfjkapkjidebaa", sum := "6ac52bb6e3f20e2486d533b03d3b8a2da9a4743eb2d9ea8fcf80558c11edf120", func := "cashbox/cashboxlaw13.LockWaits", spec := "lockWaits", inPlace := ["slices.overlaps[cashbox/api.Lock]"], unfollowed := true, recurses := true, plainKeys := false, apart := false }
def LockWaitsSaid : Prop := lockWaitsRow.holds Try.pinned (OpenSpec.ofChange lockWaitsSpec)

/-- ITS FALSE NEIGHBOUR: 'it returns false'. Refute it at one input. -/
def lockWaitsWrong : ChangeSpec := { name := "lockWaits", fn := fun _ => fun
  | [d] => { results := [.lit (.bool false)], args := [d] }
  | _ => none }
def LockWaitsWrongFalsely : Prop := lockWaitsRow.holds Try.pinned (OpenSpec.ofChange lockWaitsWrong)

/- THE SECOND FORM. 'bulk': how many values and letters a reading holds, each counted each time it is reached (what is shared counts as often as it is met; a slice's spare places count too). A statement '..UptoSaid' is the law's where the arguments, and the package variables that the reading takes, are together of bulk at most 1048576: NARROWER than '..Said'. Prove '..Said' where nothing that the law and all that it calls make is longer than what came in: it says more and counts as full. Else prove '..UptoSaid'. A law counts once. -/
mutual
def uptoBulk {H : Type} : DataW H → Nat
  | .lit (.string bytes) => bytes.length + 1
  | .lit _ => 1
  | .nil => 1
  | .ptr d => uptoBulk d + 1
  | .slice elems spare => uptoBulkAll elems + uptoBulkAll spare + 1
  | .agg parts => uptoBulkAll parts + 1
  | .iface _ d => uptoBulk d + 1
  | .map entries => uptoBulkEntries entries + 1
  | .held _ => 1
def uptoBulkAll {H : Type} : List (DataW H) → Nat
  | [] => 0
  | d :: r => uptoBulk d + uptoBulkAll r
def uptoBulkEntries {H : Type} : List (Lit × DataW H) → Nat
  | [] => 0
  | x :: r => uptoBulkEntry x + uptoBulkEntries r
def uptoBulkEntry {H : Type} : Lit × DataW H → Nat
  | (.string bytes, d) => bytes.length + uptoBulk d + 1
  | (_, d) => uptoBulk d + 1
 end
def uptoSmall : (H : Type) → List (DataW H) → Bool := fun _ ds => decide (uptoBulkAll ds ≤ 1048576)
def OpenSpec.upto (s : _root_.Go.ChangeSpec) : _root_.Go.OpenSpec := { _root_.Go.OpenSpec.ofChange s with cond := some uptoSmall }

/-- 'cashboxlaw12.AgeOrder', WHERE WHAT IT READS IS OF BULK AT MOST 1048576: true; the input reads as it did. -/
def ageOrderUptoRow : OpenClaim := { program := "ythfjkapkjidebaa", sum := "6ac52bb6e3f20e2486d533b03d3b8a2da9a4743eb2d9ea8fcf80558c11edf120", func := "cashbox/cashboxlaw12.AgeOrder", spec := "ageOrder", unfollowed := true, recurses := true, plainKeys := false, apart := false, narrowed := true }
def AgeOrderUptoSaid : Prop := ageOrderUptoRow.holds Try.pinned (OpenSpec.upto ageOrderSpec)

/-- 'cashboxlaw14.GraphMore', WHERE WHAT IT READS IS OF BULK AT MOST 1048576: true; the input reads as it did. -/
def graphMoreUptoRow : OpenClaim := { program := "ythfjkapkjidebaa", sum := "6ac52bb6e3f20e2486d533b03d3b8a2da9a4743eb2d9ea8fcf80558c11edf120", func := "cashbox/cashboxlaw14.GraphMore", spec := "graphMore", unfollowed := true, recurses := true, plainKeys := false, apart := false, narrowed := true }
def GraphMoreUptoSaid : Prop := graphMoreUptoRow.holds Try.pinned (OpenSpec.upto graphMoreSpec)

/-- 'cashboxlaw13.LockAlone', WHERE WHAT IT READS IS OF BULK AT MOST 1048576: true; the input reads as it did. -/
def lockAloneUptoRow : OpenClaim := { program := "ythfjkapkjidebaa", sum := "6ac52bb6e3f20e2486d533b03d3b8a2da9a4743eb2d9ea8fcf80558c11edf120", func := "cashbox/cashboxlaw13.LockAlone", spec := "lockAlone", inPlace := ["slices.overlaps[cashbox/api.Lock]"], unfollowed := true, recurses := true, plainKeys := false, apart := false, narrowed := true }
def LockAloneUptoSaid : Prop := lockAloneUptoRow.holds Try.pinned (OpenSpec.upto lockAloneSpec)

/-- 'cashboxlaw13.LockWaits', WHERE WHAT IT READS IS OF BULK AT MOST 1048576: true; the input reads as it did. -/
def lockWaitsUptoRow : OpenClaim := { program := "ythfjkapkjidebaa", sum := "6ac52bb6e3f20e2486d533b03d3b8a2da9a4743eb2d9ea8fcf80558c11edf120", func := "cashbox/cashboxlaw13.LockWaits", spec := "lockWaits", inPlace := ["slices.overlaps[cashbox/api.Lock]"], unfollowed := true, recurses := true, plainKeys := false, apart := false, narrowed := true }
def LockWaitsUptoSaid : Prop := lockWaitsUptoRow.holds Try.pinned (OpenSpec.upto lockWaitsSpec)

end Rows
end Go.Proofs.Ythfjkapkjidebaa

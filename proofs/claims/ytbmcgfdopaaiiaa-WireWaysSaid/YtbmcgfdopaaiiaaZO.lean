/- Epochs: what the document says of three messages. -/
import Derived.Test.YtbmcgfdopaaiiaaZN
set_option linter.all false
namespace Go.Proofs.Ytbmcgfdopaaiiaa
open Go.Am

theorem new_w : newK 1 5 = (⟨1, 5, 0, 0, 0, 0, 0⟩, 0) := by decide +kernel
theorem hear_w1 : hearR ⟨1, 5, 0, 0, 0, 0, 0⟩ (pingM 3) = (⟨1, 5, 3, 0, 0, 0, 0⟩, 2, 0) := by decide +kernel
theorem hear_w2 : (hearR ⟨1, 5, 3, 0, 0, 0, 0⟩ (pingM 2)).2 = (0, 0) := by decide +kernel
theorem hear_w3 : (hearR ⟨1, 5, 3, 0, 0, 0, 0⟩ (pingM 4)).2 = (3, 0) := by decide +kernel
theorem hear_w4 : (hearR ⟨1, 5, 3, 0, 0, 0, 0⟩ (pingM 3)).2 = (1, 0) := by decide +kernel
theorem ping_ws (n : Int) : (pingM n).ws.length ≤ 1048576 := by simp [pingM]
theorem ewakes_spec (st : St) : ASpec Try.prog 10 [] st fun v st' => v = .bool true ∧ st' = st := by
  refine pure_of (R := fun v => v = _) C9s F10 rfl ?_
  have p2 := ping_ws 2
  have p3 := ping_ws 3
  have p4 := ping_ws 4
  simp (disch := first | omega | (simp only [List.length_take, List.length_drop, List.length_append, List.length_cons, List.length_nil, List.length_map]; omega)) [IntWalk.i64_in, IntWalk.i64_quo, c10, new_w]
  refine region_static rfl (by decide +kernel) ?_
  simp (disch := first | omega | (simp only [List.length_take, List.length_drop, List.length_append, List.length_cons, List.length_nil, List.length_map]; omega)) [IntWalk.i64_in, IntWalk.i64_quo, hear_w1]
  refine region_static rfl (by decide +kernel) ?_
  simp (disch := first | omega | (simp only [List.length_take, List.length_drop, List.length_append, List.length_cons, List.length_nil, List.length_map]; omega)) [IntWalk.i64_in, IntWalk.i64_quo, hear_w2]
  refine region_static rfl (by decide +kernel) ?_
  simp (disch := first | omega | (simp only [List.length_take, List.length_drop, List.length_append, List.length_cons, List.length_nil, List.length_map]; omega)) [IntWalk.i64_in, IntWalk.i64_quo, hear_w3]
  refine region_static rfl (by decide +kernel) ?_
  simp (disch := first | omega | (simp only [List.length_take, List.length_drop, List.length_append, List.length_cons, List.length_nil, List.length_map]; omega)) [IntWalk.i64_in, IntWalk.i64_quo, hear_w4]
noncomputable def C10 : Orc := C9.add 10 (tab (fun x : Unit => []) (fun x => .bool true) fun x => True)
theorem C10s : OSound Try.prog C10 := C9s.tab fun x h st => ewakes_spec st
@[simp] theorem C10_10  : C10 10 [] = some (.bool true) := by
  rw [C10, Orc.add_same]
  exact tab_eq (fun x y h => by rfl) (x := ()) trivial
@[simp] theorem C10_o (f : Nat) (args : List AV) (h : f ≠ 10) : C10 f args = C9 f args := by
  rw [C10, Orc.add_other _ _ _ _ _ h]
end Go.Proofs.Ytbmcgfdopaaiiaa

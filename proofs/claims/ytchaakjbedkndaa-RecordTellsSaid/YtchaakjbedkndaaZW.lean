/- Records: which may be, their bytes. -/
import Derived.Test.YtchaakjbedkndaaZV
set_option linter.all false
namespace Go.Proofs.Ytchaakjbedkndaa
open Go.Am

theorem ltells_spec (r o : Rc) (hk : -128 ≤ r.kind ∧ r.kind ≤ 127) (st : St) : ASpec Try.prog 7 [.agg (rcC r), .agg (rcC o)] st fun v st' => v = .bool true ∧ st' = st := by
  refine pure_of (R := fun v => v = _) C9s F7 rfl ?_
  by_cases hg : 40 < r.ws.length
  · simp (disch := first | omega | (simp only [List.length_take, List.length_drop, List.length_append, List.length_cons, List.length_nil, List.length_map]; omega)) [IntWalk.i64_in, IntWalk.i64_quo, c7, hg]
  · have hw : r.ws.length ≤ 1048576 := by omega
    by_cases hg2 : 40 < o.ws.length
    · simp (disch := first | omega | (simp only [List.length_take, List.length_drop, List.length_append, List.length_cons, List.length_nil, List.length_map]; omega)) [IntWalk.i64_in, IntWalk.i64_quo, c7, hg, hg2]
    · have hw2 : o.ws.length ≤ 1048576 := by omega
      simp (disch := first | omega | (simp only [List.length_take, List.length_drop, List.length_append, List.length_cons, List.length_nil, List.length_map]; omega)) [IntWalk.i64_in, IntWalk.i64_quo, c7, hg, hg2, hk, hw, hw2]
      refine region_static rfl (by decide +kernel) ?_
      simp (disch := first | omega | (simp only [List.length_take, List.length_drop, List.length_append, List.length_cons, List.length_nil, List.length_map]; omega)) [IntWalk.i64_in, IntWalk.i64_quo, hk, hw, hw2]
end Go.Proofs.Ytchaakjbedkndaa

/- Records: the program's reader, on. -/
import Derived.Test.YtchaakjbedkndaaZJ
set_option linter.all false
namespace Go.Proofs.Ytchaakjbedkndaa
open Go.Am

theorem rd3_len (s : RS) : (rd3 s).2.1.length ≤ s.1.length := Nat.le_trans (rd1_len _) (Nat.le_trans (rd1_len _) (rd1_len _))
theorem gname_spec {s : RS} {g : Nat} {st : St} (hs : s.1.length ≤ 1000000) (hl : st.heap[g]? = some (gB s)) : ASpec Try.prog 60 [.ptr g 0] st fun v st' => v = .agg (nmC (rdNm s).1) ∧ st' = ⟨st.heap.set g (gB (rdNm s).2), st.toks⟩ := by
  refine raw_of C4s F60 rfl ?_
  obtain ⟨f1, f2, f3, f4, f5⟩ := at_facts hl
  have l1 := rd3_len s
  have l2 := rd3_len (rd3 s).2
  simp (disch := first | omega | (simp only [List.length_take, List.length_drop, List.length_append, List.length_cons, List.length_nil, List.length_map]; omega)) [IntWalk.i64_in, IntWalk.i64_quo, c60]
  refine awC_loopU 4 ?_
  simp (disch := first | omega | (simp only [List.length_take, List.length_drop, List.length_append, List.length_cons, List.length_nil, List.length_map]; omega)) [IntWalk.i64_in, IntWalk.i64_quo]
  refine (gthree_spec hs (f1 _)).mono ?_
  rintro _ _ ⟨rfl, rfl⟩
  clear hl
  simp (disch := first | omega | (simp only [List.length_take, List.length_drop, List.length_append, List.length_cons, List.length_nil, List.length_map]; omega)) [IntWalk.i64_in, IntWalk.i64_quo, f4, f5]
  refine (gthree_spec (s := (rd3 s).2) (by omega) (f2 _ _)).mono ?_
  rintro _ _ ⟨rfl, rfl⟩
  simp (disch := first | omega | (simp only [List.length_take, List.length_drop, List.length_append, List.length_cons, List.length_nil, List.length_map]; omega)) [IntWalk.i64_in, IntWalk.i64_quo, f4, f5]
  refine (gthree_spec (s := (rd3 (rd3 s).2).2) (by omega) (f2 _ _)).mono ?_
  rintro _ _ ⟨rfl, rfl⟩
  simp (disch := first | omega | (simp only [List.length_take, List.length_drop, List.length_append, List.length_cons, List.length_nil, List.length_map]; omega)) [IntWalk.i64_in, IntWalk.i64_quo, f4, f5]
  refine fin_set (by simp [gB]) (by simp) ?_
  simp [rdNm]
end Go.Proofs.Ytchaakjbedkndaa

/- Records: the program's reader of writes. -/
import Derived.Test.YtchaakjbedkndaaZK
set_option linter.all false
namespace Go.Proofs.Ytchaakjbedkndaa
open Go.Am

theorem rdn_len (s : RS) : ∀ n, (rdn n s).1.length ≤ s.1.length
  | 0 => Nat.le_refl _
  | n + 1 => Nat.le_trans (rd1_len _) (rdn_len s n)
theorem rdW1_len (s : RS) : (rdW1 s).2.1.length ≤ s.1.length := Nat.le_trans (rdn_len _ 8) (rd1_len s)
theorem rdWs_le : ∀ (n : Nat) (s : RS), (rdWs n s).2.1.length ≤ s.1.length
  | 0, _ => Nat.le_refl _
  | n + 1, s => by
    rw [rdWs]
    split
    · exact Nat.le_refl _
    · exact Nat.le_trans (rdWs_le n _) (rdW1_len s)
theorem rdWr_le (s : RS) : (rdWr s).2.1.length ≤ s.1.length := Nat.le_trans (rdWs_le _ _) (rd1_len s)
/-- A write's tree. -/
def wrC (w : Wr) : List AV := [.int .i64 w.block, u8 w.v0, u8 w.v1, u8 w.v2, u8 w.v3, u8 w.v4, u8 w.v5, u8 w.v6, u8 w.v7]
set_option maxRecDepth 20000 in
theorem gwrite_spec {s : RS} {g : Nat} {st : St} (hs : s.1.length ≤ 1000000) (hl : st.heap[g]? = some (gB s)) : ASpec Try.prog 82 [.ptr g 0] st fun v st' => v = .agg (wrC (rdW1 s).1) ∧ st' = ⟨st.heap.set g (gB (rdW1 s).2), st.toks⟩ := by
  refine raw_of C4s F82 rfl ?_
  obtain ⟨f1, f2, f3, f4, f5⟩ := at_facts hl
  have l1 := rd1_len s
  have ln := rdn_len (rd1 s).2
  simp (disch := first | omega | (simp only [List.length_take, List.length_drop, List.length_append, List.length_cons, List.length_nil, List.length_map]; omega)) [IntWalk.i64_in, IntWalk.i64_quo, c82]
  refine (gbyte_spec hs (f1 _)).mono ?_
  rintro _ _ ⟨rfl, rfl⟩
  simp (disch := first | omega | (simp only [List.length_take, List.length_drop, List.length_append, List.length_cons, List.length_nil, List.length_map]; omega)) [IntWalk.i64_in, IntWalk.i64_quo, f4, f5]
  refine awC_loopU 9 ?_
  simp (disch := first | omega | (simp only [List.length_take, List.length_drop, List.length_append, List.length_cons, List.length_nil, List.length_map]; omega)) [IntWalk.i64_in, IntWalk.i64_quo, f4, f5]
  refine (gbyte_spec (s := rdn 0 (rd1 s).2) (Nat.le_trans (ln 0) (by omega)) (f2 _ _)).mono ?_
  rintro _ _ ⟨rfl, rfl⟩
  rw [show (rd1 (rdn 0 (rd1 s).2)).2 = rdn 1 (rd1 s).2 from rfl]
  simp (disch := first | omega | (simp only [List.length_take, List.length_drop, List.length_append, List.length_cons, List.length_nil, List.length_map]; omega)) [IntWalk.i64_in, IntWalk.i64_quo, f4, f5]
  refine (gbyte_spec (s := rdn 1 (rd1 s).2) (Nat.le_trans (ln 1) (by omega)) (f2 _ _)).mono ?_
  rintro _ _ ⟨rfl, rfl⟩
  rw [show (rd1 (rdn 1 (rd1 s).2)).2 = rdn 2 (rd1 s).2 from rfl]
  simp (disch := first | omega | (simp only [List.length_take, List.length_drop, List.length_append, List.length_cons, List.length_nil, List.length_map]; omega)) [IntWalk.i64_in, IntWalk.i64_quo, f4, f5]
  refine (gbyte_spec (s := rdn 2 (rd1 s).2) (Nat.le_trans (ln 2) (by omega)) (f2 _ _)).mono ?_
  rintro _ _ ⟨rfl, rfl⟩
  rw [show (rd1 (rdn 2 (rd1 s).2)).2 = rdn 3 (rd1 s).2 from rfl]
  simp (disch := first | omega | (simp only [List.length_take, List.length_drop, List.length_append, List.length_cons, List.length_nil, List.length_map]; omega)) [IntWalk.i64_in, IntWalk.i64_quo, f4, f5]
  refine (gbyte_spec (s := rdn 3 (rd1 s).2) (Nat.le_trans (ln 3) (by omega)) (f2 _ _)).mono ?_
  rintro _ _ ⟨rfl, rfl⟩
  rw [show (rd1 (rdn 3 (rd1 s).2)).2 = rdn 4 (rd1 s).2 from rfl]
  simp (disch := first | omega | (simp only [List.length_take, List.length_drop, List.length_append, List.length_cons, List.length_nil, List.length_map]; omega)) [IntWalk.i64_in, IntWalk.i64_quo, f4, f5]
  refine (gbyte_spec (s := rdn 4 (rd1 s).2) (Nat.le_trans (ln 4) (by omega)) (f2 _ _)).mono ?_
  rintro _ _ ⟨rfl, rfl⟩
  rw [show (rd1 (rdn 4 (rd1 s).2)).2 = rdn 5 (rd1 s).2 from rfl]
  simp (disch := first | omega | (simp only [List.length_take, List.length_drop, List.length_append, List.length_cons, List.length_nil, List.length_map]; omega)) [IntWalk.i64_in, IntWalk.i64_quo, f4, f5]
  refine (gbyte_spec (s := rdn 5 (rd1 s).2) (Nat.le_trans (ln 5) (by omega)) (f2 _ _)).mono ?_
  rintro _ _ ⟨rfl, rfl⟩
  rw [show (rd1 (rdn 5 (rd1 s).2)).2 = rdn 6 (rd1 s).2 from rfl]
  simp (disch := first | omega | (simp only [List.length_take, List.length_drop, List.length_append, List.length_cons, List.length_nil, List.length_map]; omega)) [IntWalk.i64_in, IntWalk.i64_quo, f4, f5]
  refine (gbyte_spec (s := rdn 6 (rd1 s).2) (Nat.le_trans (ln 6) (by omega)) (f2 _ _)).mono ?_
  rintro _ _ ⟨rfl, rfl⟩
  rw [show (rd1 (rdn 6 (rd1 s).2)).2 = rdn 7 (rd1 s).2 from rfl]
  simp (disch := first | omega | (simp only [List.length_take, List.length_drop, List.length_append, List.length_cons, List.length_nil, List.length_map]; omega)) [IntWalk.i64_in, IntWalk.i64_quo, f4, f5]
  refine (gbyte_spec (s := rdn 7 (rd1 s).2) (Nat.le_trans (ln 7) (by omega)) (f2 _ _)).mono ?_
  rintro _ _ ⟨rfl, rfl⟩
  rw [show (rd1 (rdn 7 (rd1 s).2)).2 = rdn 8 (rd1 s).2 from rfl]
  simp (disch := first | omega | (simp only [List.length_take, List.length_drop, List.length_append, List.length_cons, List.length_nil, List.length_map]; omega)) [IntWalk.i64_in, IntWalk.i64_quo, f4, f5]
  refine fin_set (by simp [gB]) (by simp) ?_
  simp [rdB, rdW1, wrC]
end Go.Proofs.Ytchaakjbedkndaa

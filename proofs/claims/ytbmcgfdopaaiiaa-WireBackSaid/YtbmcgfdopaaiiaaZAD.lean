/- WireReads. -/
import Derived.Test.YtbmcgfdopaaiiaaZAB
import Derived.Test.YtbmcgfdopaaiiaaZMArgs
set_option linter.all false
namespace Go.Proofs.Ytbmcgfdopaaiiaa
open Go.Am

theorem rdM_ws (s : RS) : (rdM s).1.ws.length ≤ 255 := by
  have hN : (rdN (rdH s)).1.ws = [] := by
    unfold rdN
    split <;> rfl
  unfold rdM
  generalize rdN (rdH s) = q at hN
  unfold rdT
  repeat' split
  all_goals first
    | exact rdWr_len _
    | (simp only; rw [hN]; simp)
theorem readM_ws (b : List UInt8) : (readM b).1.ws.length ≤ 255 := by
  have hL : ∀ l, (readL l).1.ws.length ≤ 255 := by
    intro l
    cases l with
    | nil => simp [readL, zM]
    | cons x t =>
      rw [readL]
      repeat' split
      all_goals first
        | exact rdM_ws _
        | (simp [zM])
  unfold readM
  split
  · exact hL _
  · simp [zM]
theorem lreads_spec (b : List UInt8) (st : St) : ASpec Try.prog 7 [.sl .any (ofBytes b)] st fun v st' => v = .bool true ∧ st' = st := by
  refine pure_of (R := fun v => v = _) T16s F7 rfl ?_
  by_cases hl : 300 < b.length
  · have hl' : (300 : Int) < b.length := by omega
    simp (disch := first | omega | (simp only [List.length_take, List.length_drop, List.length_append, List.length_cons, List.length_nil, List.length_map]; omega)) [IntWalk.i64_in, IntWalk.i64_quo, c7, hl']
  have hl' : ¬ (300 : Int) < b.length := by omega
  have hw := readM_ws b
  obtain ⟨⟨m, e⟩, hq⟩ : ∃ q, readM b = q := ⟨_, rfl⟩
  rw [hq] at hw
  have hw2 : m.ws.length ≤ 1048576 := by simp only at hw; omega
  simp (disch := first | omega | (simp only [List.length_take, List.length_drop, List.length_append, List.length_cons, List.length_nil, List.length_map]; omega)) [IntWalk.i64_in, IntWalk.i64_quo, c7, hl', hq, hw2]
theorem lreads_avs (avs : List AV) (h : Shapes Try.prog [46] avs) (st : St) : ASpec Try.prog 7 avs st fun v st' => v = .bool true ∧ st' = st := by
  obtain ⟨a0, r, rfl, h0, h⟩ := shapes_cons h
  obtain rfl := shapes_nil h
  obtain ⟨b, rfl, _⟩ := ctok_bytes (elem_1 (h0.inv (by kernel_rfl) (by kernel_rfl)))
  exact lreads_spec b st
end Go.Proofs.Ytbmcgfdopaaiiaa

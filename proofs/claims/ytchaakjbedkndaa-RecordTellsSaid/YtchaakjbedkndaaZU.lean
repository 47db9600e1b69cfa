/- Records: no beginning, nothing behind. -/
import Derived.Test.YtchaakjbedkndaaZT
set_option linter.all false
namespace Go.Proofs.Ytchaakjbedkndaa
open Go.Am

theorem may_len {r : Rc} (h : mayR r = true) : 1 ≤ (recB r).length ∧ (recB r).length ≤ 90 := by
  have h1 := bytesR_len r
  have hB : bytesR r = (recB r, 0) := if_pos h
  rw [hB] at h1
  refine ⟨?_, h1⟩
  rw [recB_put]; simp
theorem lshort_spec (r : Rc) (n : Int) (b : List UInt8) (hk : -128 ≤ r.kind ∧ r.kind ≤ 127) (hn : -9223372036854775808 ≤ n ∧ n ≤ 9223372036854775807) (st : St) : ASpec Try.prog 4 [.agg (rcC r), .int .i64 n, .sl .any (ofBytes b)] st fun v st' => v = .bool true ∧ st' = st := by
  refine pure_of (R := fun v => v = _) C9s F4 rfl ?_
  by_cases hg : 40 < r.ws.length
  · simp (disch := first | omega | (simp only [List.length_take, List.length_drop, List.length_append, List.length_cons, List.length_nil, List.length_map]; omega)) [IntWalk.i64_in, IntWalk.i64_quo, c4, hg]
  · have hw : r.ws.length ≤ 1048576 := by omega
    by_cases hb : 100 < b.length
    · have hb' : (100 : Int) < b.length := by omega
      simp (disch := first | omega | (simp only [List.length_take, List.length_drop, List.length_append, List.length_cons, List.length_nil, List.length_map]; omega)) [IntWalk.i64_in, IntWalk.i64_quo, c4, hg, hb']
    · have hb' : ¬ (100 : Int) < b.length := by omega
      cases hm : mayR r with
      | false =>
        have hB : bytesR r = ([], 2) := by simp [bytesR, hm]
        simp (disch := first | omega | (simp only [List.length_take, List.length_drop, List.length_append, List.length_cons, List.length_nil, List.length_map]; omega)) [IntWalk.i64_in, IntWalk.i64_quo, c4, hg, hb', hk, hw, hB, hm]
      | true =>
        have hB : bytesR r = (recB r, 0) := if_pos hm
        have hl := may_len hm
        have hl0 : ¬ ((recB r).length : Int) = 0 := by omega
        obtain ⟨m, hq, hm2⟩ : ∃ m : Nat, (IntKind.i64.wrap (n.tmod ((recB r).length : Int) + (recB r).length)).tmod (recB r).length = m ∧ m < (recB r).length := by
          have hL : 0 < ((recB r).length : Int) := by omega
          have h1 := Int.tmod_lt_of_pos n hL
          have h2 := Int.lt_tmod_of_pos n hL
          rw [IntWalk.i64_in _ (by omega)]
          have h3 := Int.tmod_nonneg (a := n.tmod ((recB r).length : Int) + (recB r).length) (recB r).length (by omega)
          have h4 := Int.tmod_lt_of_pos (n.tmod ((recB r).length : Int) + (recB r).length) hL
          exact ⟨_, (Int.toNat_of_nonneg h3).symm, by omega⟩
        have hne : recB r ≠ [] := by intro h; rw [h] at hl; simp at hl
        simp (disch := first | omega | (simp only [List.length_take, List.length_drop, List.length_append, List.length_cons, List.length_nil, List.length_map]; omega)) [IntWalk.i64_in, IntWalk.i64_quo, c4, hg, hb', hk, hw, hB, hm, hl0, hne]
        rw [hq]
        have h40 := read_less hm hm2
        refine ⟨⟨by omega, by omega⟩, ?_⟩
        have happ : ofBytes (recB r) ++ ofBytes b = ofBytes (recB r ++ b) := by simp [ofBytes]
        by_cases hb0 : b = []
        · have h0 : (readR (recB r ++ b)).2 = 0 := (read_more hm b).2 hb0
          subst hb0
          rw [List.append_nil] at h0
          simp (disch := first | omega | (simp only [List.length_take, List.length_drop, List.length_append, List.length_cons, List.length_nil, List.length_map]; omega)) [IntWalk.i64_in, IntWalk.i64_quo, h40, happ, h0]
          omega
        · have h0 : ¬ (readR (recB r ++ b)).2 = 0 := fun h => hb0 ((read_more hm b).1 h)
          simp (disch := first | omega | (simp only [List.length_take, List.length_drop, List.length_append, List.length_cons, List.length_nil, List.length_map]; omega)) [IntWalk.i64_in, IntWalk.i64_quo, h40, happ, h0, hb0]
          omega
end Go.Proofs.Ytchaakjbedkndaa

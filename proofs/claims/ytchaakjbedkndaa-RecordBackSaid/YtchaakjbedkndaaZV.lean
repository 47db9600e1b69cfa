/- Records: there and back. -/
import Derived.Test.YtchaakjbedkndaaZU
set_option linter.all false
namespace Go.Proofs.Ytchaakjbedkndaa
open Go.Am

theorem may_ws {r : Rc} (h : mayR r = true) : r.ws.length ≤ 8 := by
  rw [may_such] at h
  simp only [Bool.and_eq_true, decide_eq_true_eq] at h
  by_cases h12 : r.kind = 1 ∨ r.kind = 2
  · have hs := h.1.2
    unfold suchR at hs
    rcases h12 with h12 | h12 <;> simp [h12] at hs
    · exact written_len hs.2
    · exact written_len hs.2.1
  · have hf := h.2
    have : (fieldsR r).ws = [] := by
      unfold fieldsR
      rw [if_neg (by omega), if_neg (by omega)]
      repeat' split
      all_goals rfl
    rw [hf, this]; simp
theorem lback_spec (r : Rc) (b : List UInt8) (hk : -128 ≤ r.kind ∧ r.kind ≤ 127) (st : St) : ASpec Try.prog 5 [.agg (rcC r), .sl .any (ofBytes b)] st fun v st' => v = .bool true ∧ st' = st := by
  refine pure_of (R := fun v => v = _) C9s F5 rfl ?_
  by_cases hg : 40 < r.ws.length
  · simp (disch := first | omega | (simp only [List.length_take, List.length_drop, List.length_append, List.length_cons, List.length_nil, List.length_map]; omega)) [IntWalk.i64_in, IntWalk.i64_quo, c5, hg]
  · have hw : r.ws.length ≤ 1048576 := by omega
    by_cases hb : 300 < b.length
    · have hb' : (300 : Int) < b.length := by omega
      simp (disch := first | omega | (simp only [List.length_take, List.length_drop, List.length_append, List.length_cons, List.length_nil, List.length_map]; omega)) [IntWalk.i64_in, IntWalk.i64_quo, c5, hg, hb']
    · have hb' : ¬ (300 : Int) < b.length := by omega
      -- the second part: what reads is written back
      have hwo := readR_ws b
      have hko := readR_kind b
      cases hm : mayR r with
      | false =>
        have hB : bytesR r = ([], 2) := by simp [bytesR, hm]
        by_cases he : (readR b).2 = 0
        · obtain ⟨h1, h2⟩ := read_inv he
          have hB2 : bytesR (readR b).1 = (b, 0) := by rw [bytesR, if_pos h1, h2]
          obtain ⟨⟨o, e⟩, hr⟩ : ∃ q, readR b = q := ⟨_, rfl⟩
          rw [hr] at hB2 he hwo hko
          simp only at hB2 he hwo hko
          subst he
          have hwo' : o.ws.length ≤ 1048576 := by omega
          simp (disch := first | omega | (simp only [List.length_take, List.length_drop, List.length_append, List.length_cons, List.length_nil, List.length_map]; omega)) [IntWalk.i64_in, IntWalk.i64_quo, c5, hg, hb', hk, hw, hB, hm, hr, hB2, hwo', hko]
        · simp (disch := first | omega | (simp only [List.length_take, List.length_drop, List.length_append, List.length_cons, List.length_nil, List.length_map]; omega)) [IntWalk.i64_in, IntWalk.i64_quo, c5, hg, hb', hk, hw, hB, hm, he]
      | true =>
        have hB : bytesR r = (recB r, 0) := if_pos hm
        have hl := may_len hm
        have hR := read_back hm
        obtain ⟨k, hS, hk1, hk3, hkD⟩ : ∃ k : Int, sectorsR r = (k, 0) ∧ (1 ≤ k ∧ k ≤ 2) ∧ ((recB r).length : Int) ≤ k * 45 ∧ ¬ ((recB r).length : Int) ≤ (k - 1) * 45 :=
          ⟨((recB r).length + 44) / 45, if_pos hm, by omega, by omega, by omega⟩
        have h40 := read_less hm (n := (recB r).length - 1) (by omega)
        have hkA : ¬ k < 1 := by omega
        have hkB : ¬ 2 < k := by omega
        have hkC : ¬ k * 45 < (recB r).length := by omega
        have hwr : IntKind.i64.wrap (k - 1) = k - 1 := IntWalk.i64_in _ (by omega)
        have hwr2 : IntKind.i64.wrap (k * 45) = k * 45 := IntWalk.i64_in _ (by omega)
        have hwr3 : IntKind.i64.wrap ((k - 1) * 45) = (k - 1) * 45 := IntWalk.i64_in _ (by omega)
        have hwr4 : IntKind.i64.wrap (((recB r).length : Int) - 1) = ((recB r).length : Int) - 1 := IntWalk.i64_in _ (by omega)
        have hwr5 : (((recB r).length : Int) - 1).toNat = (recB r).length - 1 := by omega
        by_cases he : (readR b).2 = 0
        · obtain ⟨h1, h2⟩ := read_inv he
          have hB2 : bytesR (readR b).1 = (b, 0) := by rw [bytesR, if_pos h1, h2]
          obtain ⟨⟨o, e⟩, hr⟩ : ∃ q, readR b = q := ⟨_, rfl⟩
          rw [hr] at hB2 he hwo hko
          simp only at hB2 he hwo hko
          subst he
          have hwo' : o.ws.length ≤ 1048576 := by omega
          clear hk3 hk1
          simp (disch := first | omega | (simp only [List.length_take, List.length_drop, List.length_append, List.length_cons, List.length_nil, List.length_map]; omega)) [IntWalk.i64_in, IntWalk.i64_quo, c5, hg, hb', hk, hw, hB, hm, hR, hS, hkA, hkB, hkC, hkD, hwr, hwr2, hwr3, hwr4, hwr5, h40, hr, hB2, hwo', hko]
          omega
        · clear hk3 hk1
          simp (disch := first | omega | (simp only [List.length_take, List.length_drop, List.length_append, List.length_cons, List.length_nil, List.length_map]; omega)) [IntWalk.i64_in, IntWalk.i64_quo, c5, hg, hb', hk, hw, hB, hm, hR, hS, hkA, hkB, hkC, hkD, hwr, hwr2, hwr3, hwr4, hwr5, h40, he]
          omega
end Go.Proofs.Ytchaakjbedkndaa

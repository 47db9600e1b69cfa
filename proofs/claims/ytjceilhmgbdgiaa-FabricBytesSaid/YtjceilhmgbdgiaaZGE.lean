/- Fabrics: both Reads of any bytes. -/
import Derived.Test.YtjceilhmgbdgiaaZGD
set_option linter.all false
namespace Go.Proofs.Ytjceilhmgbdgiaa
open Go.Am

def readF : Nat → List UInt8 → List Ms → List Ms × Int
  | 0, b, acc => if b.length = 0 then (acc, 0) else ([], 2)
  | k + 1, b, acc => if b.length = 0 then (acc, 0) else match headF b acc.length with
    | none => ([], 2)
    | some (m, r) => readF k r (acc ++ [m])
theorem readF_nil {k : Nat} {b : List UInt8} {acc : List Ms} (h : b.length = 0) : readF k b acc = (acc, 0) := by
  cases k <;> rw [readF, if_pos h]
theorem fread_all (b : List UInt8) (hb : b.length ≤ 500000) (st : St) : ASpec Try.prog 38 [.sl .any (ofBytes b)] st fun v st' => v = .tup [.agg [.sl .any (mls (readF b.length b []).1)], .int .i64 (readF b.length b []).2] ∧ st' = st := by
  refine pure_of (R := fun v => v = _) I6s F38 rfl ?_
  simp (disch := first | omega | assumption | (simp only [LL]; omega)) [WW, c38]
  refine awC_loopW (fun k env s => ∃ r t acc g T, r.length ≤ k ∧ k ≤ b.length ∧ readF k r acc = readF b.length b [] ∧ acc.length ≤ 200 ∧ env 2 = .ptr st.heap.length 0 ∧ env 4 = .ptr (st.heap.length + 1) 0 ∧ env 5 = .fn (.func 95) [.ptr (st.heap.length + 1) 0] [] ∧ s = ⟨st.heap ++ .cells false [.sl .clip []] :: .cells false [.sl .any (ofBytes r), .sl t (mls acc)] :: g, T⟩ ∧ heldF st.toks acc t T) b.length ?_ ?_
  · exact ⟨b, .clip, [], [], st.toks, by omega, by omega, rfl, by simp, rfl, rfl, rfl, by simp, .inl ⟨rfl, rfl, rfl⟩⟩
  rintro k env s ⟨r, t, acc, g, T, hk, hkb, hR, ha, e2, e4, e5, rfl, ht⟩
  by_cases hi : r.length = 0
  · rw [readF_nil hi] at hR
    rw [← hR]
    have hr0 : r = [] := List.length_eq_zero_iff.1 hi
    subst hr0
    rcases ht with ⟨rfl, rfl, rfl⟩ | ⟨rfl, rfl⟩
    · simp (disch := first | omega | assumption | (simp only [LL]; omega)) [WW, e2, e4, e5]
    · simp (disch := first | omega | assumption | (simp only [LL]; omega)) [WW, e2, e4, e5]
  have hpos : 0 < r.length := by omega
  obtain ⟨k, rfl⟩ : ∃ k', k = k' + 1 := ⟨k - 1, by omega⟩
  have hn := next_all r acc t (st.heap ++ [.cells false [.sl .clip []]]) g st.toks T ht ha (by omega)
  simp only [List.append_assoc, List.cons_append, List.nil_append, List.length_append, List.length_cons, List.length_nil, Nat.zero_add] at hn
  simp (disch := first | omega | assumption | (simp only [LL]; omega)) [WW, e2, e4, e5, hpos]
  refine hn.mono ?_
  rintro _ _ ⟨rfl, g', B', gt', rfl, hB⟩
  cases hh : headF r acc.length with
  | none =>
    have : readF (k + 1) r acc = ([], 2) := by rw [readF, if_neg hi, hh]
    rw [this] at hR
    rw [← hR]
    simp (disch := first | omega | assumption | (simp only [LL]; omega)) [WW, e2, e4, e5, hh]
  | some x =>
    obtain ⟨m, r'⟩ := x
    obtain ⟨rfl, rfl⟩ := hB m r' hh
    have hl := headF_len hh
    have : readF (k + 1) r acc = readF k r' (acc ++ [m]) := by rw [readF, if_neg hi, hh]
    rw [this] at hR
    simp (disch := first | omega | assumption | (simp only [LL]; omega)) [WW, e2, e4, e5, hh]
    exact ⟨k, by omega, r', by omega, by omega, _, acc ++ [m], hR, by simp; omega, g', _, ⟨⟨⟨rfl, rfl, rfl⟩, rfl⟩, rfl⟩, .inr ⟨rfl, by simp⟩⟩
end Go.Proofs.Ytjceilhmgbdgiaa

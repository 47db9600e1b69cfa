/- Records: a form's body. -/
import Derived.Test.YtchaakjbedkndaaZH
set_option linter.all false
namespace Go.Proofs.Ytchaakjbedkndaa
open Go.Am

/-- What a form looks at. -/
def suchR (r : Rc) : Bool := if r.kind = 6 then decide (1 ≤ r.n ∧ r.n ≤ 1048577) else if r.kind = 7 then decide (1 ≤ r.n ∧ r.n ≤ 1048576) else named r.nm &&
  (if r.kind = 1 then written r.ws else if r.kind = 2 then written r.ws && given r.give r.take else if r.kind = 4 then shardsOk r.shards && changed r.stripe r.to else true)
def putR (r : Rc) : List UInt8 := if r.kind = 6 ∨ r.kind = 7 then le3 r.n else nmB r.nm ++ tailR r
theorem recB_put (r : Rc) : recB r = UInt8.ofInt r.kind :: putR r := by
  unfold recB putR tailR
  split <;> rfl
theorem body6 {r : Rc} (hk : r.kind = 6 ∨ r.kind = 7) (hn : 0 ≤ r.n) {f o l : Nat} {st : St} (hf : st.heap[f]? = some (.cells false formsC)) (ho : formsC[o]? = some (fnA 51)) (hl : st.heap[l]? = some (rB r)) :
    ASpec Try.prog 33 [.ptr f o, .ptr l 0] st fun v st' => v = .sl .any (ofBytes (putR r)) ∧ st' = st := by
  refine pure_of (R := fun v => v = _) C4s F33 rfl ?_
  obtain ⟨f1, f2, f3, f4, f5⟩ := at_facts hf
  obtain ⟨g1, g2, g3, g4, g5⟩ := at_facts hl
  have hol := (List.getElem?_eq_some_iff.1 ho).1
  have ho' : ∀ h, formsC[o]'h = fnA 51 := fun h => (List.getElem?_eq_some_iff.1 ho).2
  clear ho
  simp (disch := first | omega | (simp only [List.length_take, List.length_drop, List.length_append, List.length_cons, List.length_nil, List.length_map]; omega)) [IntWalk.i64_in, IntWalk.i64_quo, c33, f1, ho', hol]
  refine (put51 (r := r) (w := st.heap.length) (h := st.heap ++ [nilW]) (tk := st.toks) (by simp) (g1 _) hn).mono ?_
  rintro _ _ ⟨rfl, rfl⟩
  have hW : ∀ k b, wB k b = .cells false [.sl (.own k) (ofBytes b)] := fun _ _ => rfl
  simp (disch := first | omega | (simp only [List.length_take, List.length_drop, List.length_append, List.length_cons, List.length_nil, List.length_map]; omega)) [IntWalk.i64_in, IntWalk.i64_quo, hW]
  simp [putR, hk]
theorem body1 {r : Rc} {g : Nat} (hk : ¬ (r.kind = 6 ∨ r.kind = 7)) (hn : 0 ≤ r.nm.stamp ∧ 0 ≤ r.nm.inc ∧ 0 ≤ r.nm.tr) (hp : Put g r (tailR r)) (hC : ∀ a, C4 g a = none) {f o l : Nat} {st : St} (hf : st.heap[f]? = some (.cells false formsC)) (ho : formsC[o]? = some (.fn (.func 57) [] [.rptr (fnA g)])) (hl : st.heap[l]? = some (rB r)) :
    ASpec Try.prog 33 [.ptr f o, .ptr l 0] st fun v st' => v = .sl .any (ofBytes (putR r)) ∧ st' = st := by
  refine pure_of (R := fun v => v = _) C4s F33 rfl ?_
  obtain ⟨f1, f2, f3, f4, f5⟩ := at_facts hf
  obtain ⟨g1, g2, g3, g4, g5⟩ := at_facts hl
  have hol := (List.getElem?_eq_some_iff.1 ho).1
  have hll := (List.getElem?_eq_some_iff.1 hl).1
  have ho' : ∀ h, formsC[o]'h = .fn (.func 57) [] [.rptr (fnA g)] := fun h => (List.getElem?_eq_some_iff.1 ho).2
  clear ho
  simp (disch := first | omega | (simp only [List.length_take, List.length_drop, List.length_append, List.length_cons, List.length_nil, List.length_map]; omega)) [IntWalk.i64_in, IntWalk.i64_quo, c33, f1, ho', hol]
  refine (put57 (w := st.heap.length) (h := st.heap ++ [nilW]) (tk := st.toks) hp hC (by omega) (by simp) (g1 _) hn).mono ?_
  rintro _ _ ⟨rfl, rfl⟩
  have hW : ∀ k b, wB k b = .cells false [.sl (.own k) (ofBytes b)] := fun _ _ => rfl
  simp (disch := first | omega | (simp only [List.length_take, List.length_drop, List.length_append, List.length_cons, List.length_nil, List.length_map]; omega)) [IntWalk.i64_in, IntWalk.i64_quo, hW]
  simp [putR, hk]
theorem such_named {r : Rc} (hs : suchR r = true) (hk : ¬ (r.kind = 6 ∨ r.kind = 7)) : named r.nm = true := by
  unfold suchR at hs
  rw [if_neg (by omega), if_neg (by omega)] at hs
  simp only [Bool.and_eq_true] at hs
  exact hs.1
theorem such_n {r : Rc} (hs : suchR r = true) (hk : r.kind = 6 ∨ r.kind = 7) : 0 ≤ r.n := by
  unfold suchR at hs
  rcases hk with hk | hk <;> simp [hk] at hs <;> omega
theorem body_spec {r : Rc} (hk : 1 ≤ r.kind ∧ r.kind ≤ 7) (hs : suchR r = true) {f l : Nat} {st : St} (hf : st.heap[f]? = some (.cells false formsC)) (hl : st.heap[l]? = some (rB r)) :
    ASpec Try.prog 33 [.ptr f (r.kind.toNat * 3), .ptr l 0] st fun v st' => v = .sl .any (ofBytes (putR r)) ∧ st' = st := by
  by_cases h67 : r.kind = 6 ∨ r.kind = 7
  · refine body6 h67 (such_n hs h67) hf ?_ hl
    rcases h67 with h | h <;> rw [h] <;> rfl
  · have hn := such_named hs h67
    have hp := named_pos hn
    unfold suchR at hs
    rw [if_neg (by omega), if_neg (by omega), hn, Bool.true_and] at hs
    obtain h1 | h2 | h3 | h4 | h5 : r.kind = 1 ∨ r.kind = 2 ∨ r.kind = 3 ∨ r.kind = 4 ∨ r.kind = 5 := by omega
    · have ht : tailR r = wsB r.ws := by simp [tailR, h1]
      have hw : written r.ws = true := by simpa [h1] using hs
      exact body1 (g := 62) h67 hp (by rw [ht]; exact put62 (written_len hw)) (by intro a; simp) hf (by rw [h1]; rfl) hl
    · have ht : tailR r = wsB r.ws ++ [UInt8.ofInt r.give, UInt8.ofInt r.take] := by simp [tailR, h2]
      have hw : written r.ws = true := by
        have : (written r.ws && given r.give r.take) = true := by simpa [h2] using hs
        simp only [Bool.and_eq_true] at this
        exact this.1
      exact body1 (g := 67) h67 hp (by rw [ht]; exact put67 (written_len hw)) (by intro a; simp) hf (by rw [h2]; rfl) hl
    · have ht : tailR r = [if r.yes then 1 else 0] := by simp [tailR, h3]
      exact body1 (g := 72) h67 hp (by rw [ht]; exact put72) (by intro a; simp) hf (by rw [h3]; rfl) hl
    · have ht : tailR r = [UInt8.ofInt r.shards, UInt8.ofInt (r.stripe + 1), UInt8.ofInt r.to] := by simp [tailR, h4]
      have hw : (shardsOk r.shards && changed r.stripe r.to) = true := by simpa [h4] using hs
      simp only [Bool.and_eq_true] at hw
      have hst : 0 ≤ r.stripe + 1 ∧ r.stripe ≤ 100 := by
        have := hw.2
        unfold changed at this
        simp only [decide_eq_true_eq] at this
        omega
      exact body1 (g := 76) h67 hp (by rw [ht]; exact put76 hst) (by intro a; simp) hf (by rw [h4]; rfl) hl
    · have ht : tailR r = [] := by simp [tailR, h5]
      exact body1 (g := 79) h67 hp (by rw [ht]; exact put79) (by intro a; simp) hf (by rw [h5]; rfl) hl
end Go.Proofs.Ytchaakjbedkndaa

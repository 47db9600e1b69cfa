/- Fabrics: bytes of any mail, what any bytes read as. -/
import Derived.Test.YtjceilhmgbdgiaaZGF
set_option linter.all false
namespace Go.Proofs.Ytjceilhmgbdgiaa
open Go.Am

theorem getAll_ws (fs : List Fd) (m : Ms) : ∀ x : Ms, x.ws.length ≤ m.ws.length → ((∀ f ∈ fs, f ≠ .writes) → (getAll fs m x).ws = x.ws) := by
  induction fs with
  | nil => intro x _ _; rfl
  | cons f fs ih =>
    intro x hx h
    have h1 : (setF f m x).ws = x.ws := setF_ws (h f (by simp))
    have h2 := ih (setF f m x) (by rw [h1]; exact hx) fun g hg => h g (by simp [hg])
    rw [getAll, List.foldl_cons]
    rw [getAll] at h2
    rw [h2, h1]
theorem may_ws {m : Ms} (h : mayM m = true) : m.ws.length ≤ 8 := by
  obtain ⟨hk, _, _, _, he, hg⟩ := mayM_facts h
  by_cases hw : Fd.writes ∈ fieldsOf m.kind
  · exact (hg _ hw).1
  · have h1 := getAll_ws (fieldsOf m.kind) m (hdM m) (by simp [hdM]) fun f hf e => hw (e ▸ hf)
    rw [he, h1]
    simp [hdM]
theorem may_okW {l : List Ms} (h : ∀ m ∈ l, mayM m = true) : okW l := by
  unfold okW
  intro m hm
  have := may_ws (h m hm)
  omega
theorem readF_may : ∀ (k : Nat) (b : List UInt8) (acc : List Ms), (∀ m ∈ acc, mayM m = true) → acc.length ≤ 200 → (∀ m ∈ (readF k b acc).1, mayM m = true) ∧ (readF k b acc).1.length ≤ 200
  | 0, b, acc, h, hl => by
    rw [readF]
    split
    · exact ⟨h, hl⟩
    · simp
  | k + 1, b, acc, h, hl => by
    rw [readF]
    split
    · exact ⟨h, hl⟩
    split
    · simp
    · rename_i m r hh
      have := headF_len hh
      refine readF_may k r (acc ++ [m]) (fun x hx => ?_) (by simp; omega)
      rcases List.mem_append.1 hx with h1 | h1
      · exact h x h1
      · rw [List.mem_singleton.1 h1]; exact this.2.1
theorem lbytes_spec (l : List Ms) (b : List UInt8) (st : St) : ASpec Try.prog 8 [.agg [.sl .any (mls l)], .sl .any (ofBytes b)] st fun v st' => v = .bool true ∧ st' = st := by
  refine pure_of (R := fun v => v = _) I6s F8 rfl ?_
  cases hs : smallF l
  · simp (disch := first | omega | assumption | (simp only [LL]; omega)) [WW, c8, hs]
  obtain ⟨hw, hln⟩ := small_okW hs
  have hc2 : okW l ∧ l.length ≤ 1048576 := ⟨hw, by omega⟩
  by_cases hb : 20000 < b.length
  · have hb' : (20000 : Int) < b.length := by omega
    simp (disch := first | omega | assumption | (simp only [LL]; omega)) [WW, c8, hs, hb']
  have hb' : ¬ (20000 : Int) < b.length := by omega
  have hm := readF_may b.length b [] (by simp) (by simp)
  have hR : okW (readF b.length b []).1 ∧ (readF b.length b []).1.length ≤ 1048576 := ⟨may_okW hm.1, by omega⟩
  simp (disch := first | omega | assumption | (simp only [LL]; omega)) [WW, c8, hs, hb']
  refine (fread_all b (by omega) _).mono ?_
  rintro _ _ ⟨rfl, rfl⟩
  simp (disch := first | omega | assumption | (simp only [LL]; omega)) [WW, hs]
  refine (rfread_all b (by omega) _).mono ?_
  rintro _ _ ⟨rfl, rfl⟩
  simp (disch := first | omega | assumption | (simp only [LL]; omega)) [WW, hs]
theorem lbytes_avs (avs : List AV) (h : Shapes Try.prog [76, 77] avs) (st : St) : ASpec Try.prog 8 avs st fun v st' => v = .bool true ∧ st' = st := by
  obtain ⟨a0, r, rfl, h0, h⟩ := shapes_cons h
  obtain ⟨a1, r, rfl, h1, h⟩ := shapes_cons h
  obtain rfl := shapes_nil h
  obtain ⟨xs, rfl, k⟩ := elem_k (h0.inv (sz := some 1) (l := [.sl (some 24) msCT]) (by kernel_rfl) (by kernel_rfl))
  obtain ⟨c0, xs, rfl, k0, k⟩ := cells_cons k
  obtain rfl := cells_nil k
  obtain ⟨l, rfl, _, _⟩ := ctok_slOf (f := msA) k0 (fun e he => ms_of' he)
  obtain ⟨b, rfl, _⟩ := ctok_bytes (elem_1 (h1.inv (by kernel_rfl) (by kernel_rfl)))
  exact lbytes_spec l b st
end Go.Proofs.Ytjceilhmgbdgiaa

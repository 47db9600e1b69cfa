/- Fabrics: there and back. -/
import Derived.Test.YtjceilhmgbdgiaaZFE
import Derived.Test.YtjceilhmgbdgiaaZMArgs
set_option linter.all false
namespace Go.Proofs.Ytjceilhmgbdgiaa
open Go.Am

noncomputable def H6 : Orc := H5.add 35 (tab (fun x : Unit => []) (fun x => .bool true) fun x => True)
theorem H6s : OSound Try.prog H6 := H5s.tab fun x h st => fwakes_spec st
@[simp] theorem H6_35  : H6 35 [] = some (.bool true) := by
  rw [H6, Orc.add_same]
  exact tab_eq (fun x y h => by rfl) (x := ()) trivial
@[simp] theorem H6_o (f : Nat) (args : List AV) (h : f ≠ 35) : H6 f args = H5 f args := by
  rw [H6, Orc.add_other _ _ _ _ _ h]
theorem fput_none {l : List Ms} {m : Ms} (h : ¬ (fputF l m).2 = 0) : ¬ ((fputF l m).2 = 0) := h
theorem fput_ok {l : List Ms} {m : Ms} (h : (fputF l m).2 = 0) : fputF l m = (l ++ [m], 0) ∧ checkF (l ++ [m]) = true := by
  unfold fputF at h ⊢
  split at h
  · rename_i hc
    split at h
    · cases h
    · rename_i h2
      refine ⟨by rw [if_pos hc, if_neg h2], ?_⟩
      have := checkF_len hc.1
      have h1 := hc.1
      simp only [checkF, Bool.and_eq_true, decide_eq_true_eq, List.all_append, List.all_cons, List.all_nil, Bool.and_true, List.length_append, List.length_cons, List.length_nil] at h1 ⊢
      exact ⟨by omega, h1.2, hc.2⟩
  · cases h
theorem okW_snoc {l : List Ms} {m : Ms} (h : okW l) (hm : m.ws.length ≤ 1048576) : okW (l ++ [m]) := by
  unfold okW at *
  intro x hx
  rcases List.mem_append.1 hx with h1 | h1
  · exact h x h1
  · rw [List.mem_singleton.1 h1]; exact hm
theorem lback_spec (l : List Ms) (m : Ms) (n : Int) (st : St) : ASpec Try.prog 9 [.agg [.sl .any (mls l)], .agg (msC m), .int .i64 n] st fun v st' => v = .bool true ∧ st' = st := by
  refine pure_of (R := fun v => v = _) H6s F9 rfl ?_
  cases hs : smallF l
  · simp (disch := first | omega | assumption | (simp only [LL]; omega)) [WW, c9, hs]
  obtain ⟨hw, hln⟩ := small_okW hs
  have hc2 : okW l ∧ l.length ≤ 1048576 := ⟨hw, by omega⟩
  by_cases hg : 40 < m.ws.length
  · simp (disch := first | omega | assumption | (simp only [LL]; omega)) [WW, c9, hs, hg]
  by_cases hc : checkF l = true
  case neg =>
    simp (disch := first | omega | assumption | (simp only [LL]; omega)) [WW, c9, hs, hg, hc]
  have hmw : m.ws.length ≤ 1048576 := by omega
  have hc3 : okW l ∧ l.length ≤ 1048576 ∧ m.ws.length ≤ 1048576 := ⟨hw, by omega, hmw⟩
  simp (disch := first | omega | assumption | (simp only [LL]; omega)) [WW, c9, hs, hg, hc]
  refine (fbytes_spec hc hw _).mono ?_
  rintro _ _ ⟨rfl, rfl⟩
  simp (disch := first | omega | assumption | (simp only [LL]; omega)) [WW, hs, hg, hc]
  refine (fread_spec hc _).mono ?_
  rintro _ _ ⟨rfl, rfl⟩
  simp (disch := first | omega | assumption | (simp only [LL]; omega)) [WW, hs, hg, hc]
  by_cases hp : (fputF l m).2 = 0
  · obtain ⟨he, hce⟩ := fput_ok hp
    simp (disch := first | omega | assumption | (simp only [LL]; omega)) [WW, he]
    refine (take_spec (l := l ++ [m]) (i := l.length) hce (by simp) (okW_snoc hw hmw) _).mono ?_
    rintro _ _ ⟨rfl, rfl⟩
    have hgm : (l ++ [m])[l.length]'(by simp) = m := by simp
    simp (disch := first | omega | assumption | (simp only [LL]; omega)) [WW, he, hgm]
    by_cases ha : atF l n = 0
    case neg =>
      refine (twice_no ha (by omega) hw _).mono ?_
      rintro _ _ ⟨rfl, rfl⟩
      simp (disch := first | omega | assumption | (simp only [LL]; omega)) [WW, ha]
    obtain ⟨_, i, rfl, hi⟩ := atF_0 ha
    have hwi := okW_get hw hi
    refine (twice_spec hc hi hw _).mono ?_
    rintro _ _ ⟨rfl, rfl⟩
    by_cases h2 : (fputF l l[i]).2 = 0
    case neg =>
      simp (disch := first | omega | assumption | (simp only [LL]; omega)) [WW, h2]
    obtain ⟨he2, hce2⟩ := fput_ok h2
    simp (disch := first | omega | assumption | (simp only [LL]; omega)) [WW, he2]
    refine (take_spec (l := l ++ [l[i]]) (i := l.length) hce2 (by simp) (okW_snoc hw hwi) _).mono ?_
    rintro _ _ ⟨rfl, rfl⟩
    simp (disch := first | omega | assumption | (simp only [LL]; omega)) [WW, he2]
    refine (take_spec (l := l ++ [l[i]]) (i := i) hce2 (by simp; omega) (okW_snoc hw hwi) _).mono ?_
    rintro _ _ ⟨rfl, rfl⟩
    have hgi : (l ++ [l[i]])[i]'(by simp; omega) = l[i] := List.getElem_append_left hi
    simp (disch := first | omega | assumption | (simp only [LL]; omega)) [WW, he2, hgi]
  · simp (disch := first | omega | assumption | (simp only [LL]; omega)) [WW, hp]
    by_cases ha : atF l n = 0
    case neg =>
      refine (twice_no ha (by omega) hw _).mono ?_
      rintro _ _ ⟨rfl, rfl⟩
      simp (disch := first | omega | assumption | (simp only [LL]; omega)) [WW, ha]
    obtain ⟨_, i, rfl, hi⟩ := atF_0 ha
    have hwi := okW_get hw hi
    refine (twice_spec hc hi hw _).mono ?_
    rintro _ _ ⟨rfl, rfl⟩
    by_cases h2 : (fputF l l[i]).2 = 0
    case neg =>
      simp (disch := first | omega | assumption | (simp only [LL]; omega)) [WW, h2]
    obtain ⟨he2, hce2⟩ := fput_ok h2
    simp (disch := first | omega | assumption | (simp only [LL]; omega)) [WW, he2]
    refine (take_spec (l := l ++ [l[i]]) (i := l.length) hce2 (by simp) (okW_snoc hw hwi) _).mono ?_
    rintro _ _ ⟨rfl, rfl⟩
    simp (disch := first | omega | assumption | (simp only [LL]; omega)) [WW, he2]
    refine (take_spec (l := l ++ [l[i]]) (i := i) hce2 (by simp; omega) (okW_snoc hw hwi) _).mono ?_
    rintro _ _ ⟨rfl, rfl⟩
    have hgi : (l ++ [l[i]])[i]'(by simp; omega) = l[i] := List.getElem_append_left hi
    simp (disch := first | omega | assumption | (simp only [LL]; omega)) [WW, he2, hgi]
theorem ms_of' {a : AV} (h : ElemS (some 24) msCT a) : ∃ m : Ms, a = msA m ∧ True := ms_of h
theorem lback_avs (avs : List AV) (h : Shapes Try.prog [76, 39, 3] avs) (st : St) : ASpec Try.prog 9 avs st fun v st' => v = .bool true ∧ st' = st := by
  obtain ⟨a0, r, rfl, h0, h⟩ := shapes_cons h
  obtain ⟨a1, r, rfl, h1, h⟩ := shapes_cons h
  obtain ⟨a2, r, rfl, h2, h⟩ := shapes_cons h
  obtain rfl := shapes_nil h
  obtain ⟨xs, rfl, k⟩ := elem_k (h0.inv (sz := some 1) (l := [.sl (some 24) msCT]) (by kernel_rfl) (by kernel_rfl))
  obtain ⟨c0, xs, rfl, k0, k⟩ := cells_cons k
  obtain rfl := cells_nil k
  obtain ⟨l, rfl, _, _⟩ := ctok_slOf (f := msA) k0 (fun e he => ms_of' he)
  obtain ⟨m, rfl, _⟩ := ms_of (h1.inv (by kernel_rfl) (by kernel_rfl))
  obtain ⟨n, rfl, _⟩ := ctok_i64 (elem_1 (h2.inv (by kernel_rfl) (by kernel_rfl)))
  exact lback_spec l m n st
end Go.Proofs.Ytjceilhmgbdgiaa

/- Fabrics: Great, Same, wakes. -/
import Derived.Test.YtjceilhmgbdgiaaZFC
set_option linter.all false
namespace Go.Proofs.Ytjceilhmgbdgiaa
open Go.Am

def smallF (l : List Ms) : Bool := decide (l.length ≤ 300) && l.all fun m => decide (m.ws.length ≤ 40)
theorem fgreat_spec (l : List Ms) (st : St) : ASpec Try.prog 34 [.agg [.sl .any (mls l)]] st fun v st' => v = .bool (!smallF l) ∧ st' = st := by
  refine pure_of (R := fun v => v = _) H2s F34 rfl ?_
  simp (disch := first | omega | assumption | (simp only [LL]; omega)) [WW, c34]
  refine awC_loopW (fun k env s => ∃ i, k + i = 301 ∧ i ≤ l.length ∧ env 1 = .rptr (.agg [.sl .any (mls l)]) ∧ env 3 = .int .i64 i ∧ s = st ∧ (∀ m ∈ l.take i, m.ws.length ≤ 40)) 301 ?_ ?_
  · exact ⟨0, by simp⟩
  rintro k env s ⟨i, hk, hil, e1, e3, rfl, hm⟩
  by_cases hi : i < l.length
  case neg =>
    have hi' : ¬ (i : Int) < l.length := by omega
    rw [List.take_of_length_le (by omega)] at hm
    have hs : smallF l = decide (l.length ≤ 300) := by
      have : (l.all fun m => decide (m.ws.length ≤ 40)) = true := by simpa using hm
      rw [smallF, this, Bool.and_true]
    simp (disch := first | omega | assumption | (simp only [LL]; omega)) [WW, e1, e3, hi', hs]
    by_cases h3 : l.length ≤ 300
    · have h3' : ¬ (300 : Int) < l.length := by omega
      simp [h3, h3']
    · have h3' : (300 : Int) < l.length := by omega
      simp [h3, h3']
  have hi' : (i : Int) < l.length := by omega
  by_cases h300 : i ≤ 300
  case neg =>
    have h3' : ¬ (i : Int) ≤ 300 := by omega
    have hs : smallF l = false := by
      rw [← Bool.not_eq_true]
      intro h
      simp only [smallF, Bool.and_eq_true, decide_eq_true_eq] at h
      omega
    have h3 : (300 : Int) < l.length := by omega
    simp (disch := first | omega | assumption | (simp only [LL]; omega)) [WW, e1, e3, hi', hs, h3, h3']
  have h3' : (i : Int) ≤ 300 := by omega
  by_cases hg : 40 < l[i].ws.length
  · have hs : smallF l = false := by
      rw [← Bool.not_eq_true]
      intro h
      simp only [smallF, Bool.and_eq_true, List.all_eq_true, decide_eq_true_eq] at h
      have := h.2 _ (List.getElem_mem hi)
      omega
    simp (disch := first | omega | assumption | (simp only [LL]; omega)) [WW, e1, e3, hi, hi', hs, h3', hg]
  · simp (disch := first | omega | assumption | (simp only [LL]; omega)) [WW, e1, e3, hi, hi', h3', hg]
    refine ⟨k - 1, by omega, i + 1, by omega, by omega, by omega, ?_⟩
    rw [List.take_succ_eq_append_getElem hi]
    intro m hmm
    rcases List.mem_append.1 hmm with h | h
    · exact hm m h
    · rw [List.mem_singleton.1 h]; omega
theorem small_okW {l : List Ms} (h : smallF l = true) : okW l ∧ l.length ≤ 300 := by
  simp only [smallF, Bool.and_eq_true, List.all_eq_true, decide_eq_true_eq] at h
  refine ⟨?_, h.1⟩
  unfold okW
  intro m hm
  have := h.2 m hm
  omega
theorem take_extM {l1 l2 : List Ms} {i : Nat} (h : l1.take i = l2.take i) (h1 : i < l1.length) (h2 : i < l2.length) (he : l1[i] = l2[i]) : l1.take (i + 1) = l2.take (i + 1) := by
  rw [List.take_succ_eq_append_getElem h1, List.take_succ_eq_append_getElem h2, h, he]
theorem fsame_spec (a b : List Ms) (hw : okW a) (hl : a.length ≤ 1048576) (st : St) : ASpec Try.prog 40 [.agg [.sl .any (mls a)], .agg [.sl .any (mls b)]] st fun v st' => v = .bool (decide (a = b)) ∧ st' = st := by
  refine pure_of (R := fun v => v = _) H2s F40 rfl ?_
  by_cases hln : a.length = b.length
  case neg =>
    have hl' : ¬ (a.length : Int) = b.length := by omega
    simp (disch := first | omega | assumption | (simp only [LL]; omega)) [WW, c40, hl']
    exact fun h => hln (by rw [h])
  simp (disch := first | omega | assumption | (simp only [LL]; omega)) [WW, c40, hln]
  refine awC_loopW (fun k env s => ∃ i, k + i = a.length ∧ env 2 = .rptr (.agg [.sl .any (mls a)]) ∧ env 3 = .rptr (.agg [.sl .any (mls b)]) ∧ env 5 = .int .i64 i ∧ s = st ∧ a.take i = b.take i) a.length ?_ ?_
  · exact ⟨0, by simp⟩
  rintro k env s ⟨i, hk, e2, e3, e5, rfl, ht⟩
  by_cases hi : i < a.length
  · have hi' : (i : Int) < a.length := by omega
    have hib : i < b.length := by omega
    have hwi := okW_get hw hi
    by_cases he : a[i] = b[i]
    · simp (disch := first | omega | assumption | (simp only [LL]; omega)) [WW, e2, e3, e5, hi, hi', hib]
      refine region_static rfl (by decide +kernel) ?_
      rw [he] at hwi
      simp (disch := first | omega | assumption | (simp only [LL]; omega)) [WW, e2, e3, e5, hi, hi', hib, he]
      exact ⟨k - 1, by omega, i + 1, by omega, by omega, take_extM ht hi hib he⟩
    · have hne : ¬ a = b := fun h => he (by subst h; rfl)
      simp (disch := first | omega | assumption | (simp only [LL]; omega)) [WW, e2, e3, e5, hi, hi', hib]
      refine region_static rfl (by decide +kernel) ?_
      simp (disch := first | omega | assumption | (simp only [LL]; omega)) [WW, e2, e3, e5, hi, hi', hib, he, hne]
  · have hi' : ¬ (i : Int) < a.length := by omega
    have hib : ¬ i < b.length := by omega
    rw [List.take_of_length_le (by omega), List.take_of_length_le (by omega)] at ht
    simp (disch := first | omega | assumption | (simp only [LL]; omega)) [WW, e2, e3, e5, hi', ht, hib]
noncomputable def H3 : Orc := H2.add 34 (tab (fun x : List Ms => [.agg [.sl .any (mls x)]]) (fun x => .bool (!smallF x)) fun x => True)
theorem H3s : OSound Try.prog H3 := H2s.tab fun x h st => fgreat_spec x st
@[simp] theorem H3_34 (l : List Ms) : H3 34 [.agg [.sl .any (mls l)]] = some (.bool (!smallF l)) := by
  rw [H3, Orc.add_same]
  exact tab_eq (fun x y h => by simp at h; simp [h]) (x := (l)) trivial
@[simp] theorem H3_o (f : Nat) (args : List AV) (h : f ≠ 34) : H3 f args = H2 f args := by
  rw [H3, Orc.add_other _ _ _ _ _ h]
noncomputable def H4 : Orc := H3.add 40 (tab (fun x : List Ms × List Ms => [.agg [.sl .any (mls x.1)], .agg [.sl .any (mls x.2)]]) (fun x => .bool (decide (x.1 = x.2))) fun x => okW x.1 ∧ x.1.length ≤ 1048576)
theorem H4s : OSound Try.prog H4 := H3s.tab fun x h st => fsame_spec x.1 x.2 h.1 h.2 st
@[simp] theorem H4_40 (a : List Ms) (b : List Ms) (h : okW a ∧ a.length ≤ 1048576) : H4 40 [.agg [.sl .any (mls a)], .agg [.sl .any (mls b)]] = some (.bool (decide (a = b))) := by
  rw [H4, Orc.add_same]
  exact tab_eq (fun x y h => by simp at h; simp [h]) (x := (a, b)) h
@[simp] theorem H4_o (f : Nat) (args : List AV) (h : f ≠ 40) : H4 f args = H3 f args := by
  rw [H4, Orc.add_other _ _ _ _ _ h]
def pingM (n : Int) : Ms := ⟨1, 0, n, 1, 0, ⟨0, 0, 0⟩, 0, 0, 0, zV, 0, false, 0, 0, []⟩
theorem ping_spec (n : Int) (st : St) : ASpec Try.prog 90 [.int .i64 n] st fun v st' => v = .agg (msC (pingM n)) ∧ st' = st := by
  refine pure_of (R := fun v => v = _) H4s F90 rfl ?_
  simp (disch := first | omega | assumption | (simp only [LL]; omega)) [WW, c90, pingM, zV, u8]
noncomputable def H5 : Orc := H4.add 90 (tab (fun x : Int => [.int .i64 x]) (fun x => .agg (msC (pingM x))) fun x => True)
theorem H5s : OSound Try.prog H5 := H4s.tab fun x h st => ping_spec x st
@[simp] theorem H5_90 (n : Int) : H5 90 [.int .i64 n] = some (.agg (msC (pingM n))) := by
  rw [H5, Orc.add_same]
  exact tab_eq (fun x y h => by simp at h; simp [h]) (x := (n)) trivial
@[simp] theorem H5_o (f : Nat) (args : List AV) (h : f ≠ 90) : H5 f args = H4 f args := by
  rw [H5, Orc.add_other _ _ _ _ _ h]
theorem pw_1 : fputF [] (pingM 1) = ([pingM 1], 0) := by decide +kernel
theorem pw_2 : fputF [pingM 1] (pingM 2) = ([pingM 1, pingM 2], 0) := by decide +kernel
theorem pw_3 : fputF [pingM 1, pingM 2] (pingM 1) = ([pingM 1, pingM 2, pingM 1], 0) := by decide +kernel
theorem pw_4 : checkF [pingM 1, pingM 2] = true := by decide +kernel
theorem pw_5 : checkF [pingM 1, pingM 2, pingM 1] = true := by decide +kernel
theorem pw_to (n : Int) : (pingM n).to = n := rfl
theorem pw_ws (n : Int) : (pingM n).ws = [] := rfl
theorem pw_ok (l : List Ms) (h : ∀ m ∈ l, ∃ n, m = pingM n) : okW l := by
  unfold okW
  intro m hm
  obtain ⟨n, rfl⟩ := h m hm
  simp [pw_ws]
theorem mls_one (n : Int) : mls [pingM n] = [msA (pingM n)] := rfl
theorem pw_ok1 (a : Int) : okW [pingM a] := pw_ok _ (by simp only [List.mem_singleton]; rintro _ rfl; exact ⟨_, rfl⟩)
theorem pw_ok2 (a b : Int) : okW [pingM a, pingM b] := pw_ok _ (by simp only [List.mem_cons, List.not_mem_nil, or_false]; rintro _ (rfl | rfl) <;> exact ⟨_, rfl⟩)
theorem pw_ok3 (a b c : Int) : okW [pingM a, pingM b, pingM c] := pw_ok _ (by simp only [List.mem_cons, List.not_mem_nil, or_false]; rintro _ (rfl | rfl | rfl) <;> exact ⟨_, rfl⟩)
attribute [irreducible] pingM
theorem fwakes_spec (st : St) : ASpec Try.prog 35 [] st fun v st' => v = .bool true ∧ st' = st := by
  refine pure_of (R := fun v => v = _) H5s F35 rfl ?_
  have k0 : okW [] ∧ ([] : List Ms).length ≤ 1048576 ∧ (pingM 1).ws.length ≤ 1048576 := ⟨pw_ok _ (by simp), by simp, by simp [pw_ws]⟩
  have k1 : okW [pingM 1] ∧ [pingM 1].length ≤ 1048576 ∧ (pingM 2).ws.length ≤ 1048576 := ⟨pw_ok1 _, by simp, by simp [pw_ws]⟩
  have z := G3_42 [] (pingM 1).kind (pingM 1).fr (pingM 1).to (pingM 1).inc (pingM 1).your (pingM 1).nm.stamp (pingM 1).nm.inc (pingM 1).nm.tr (pingM 1).n (pingM 1).op (pingM 1).block (pingM 1).val.v0 (pingM 1).val.v1 (pingM 1).val.v2 (pingM 1).val.v3 (pingM 1).val.v4 (pingM 1).val.v5 (pingM 1).val.v6 (pingM 1).val.v7 (pingM 1).e (pingM 1).yes (pingM 1).give (pingM 1).take (pingM 1).ws k0
  simp only [mls_nil, nm_eta, vl_eta, ms_eta, pw_1] at z
  simp (disch := first | omega | assumption | (simp only [LL]; omega)) [WW, c35]
  refine region_static rfl (by decide +kernel) ?_
  simp (disch := first | omega | assumption | (simp only [LL]; omega)) [WW, z, pw_1, pw_2]
  refine region_static rfl (by decide +kernel) ?_
  simp (disch := first | omega | assumption | (simp only [LL]; omega)) [WW, z, pw_1, pw_2]
  refine (twice_spec (l := [pingM 1, pingM 2]) (i := 0) pw_4 (by simp) (pw_ok2 _ _) _).mono ?_
  rintro _ _ ⟨rfl, rfl⟩
  rw [show fputF [pingM 1, pingM 2] [pingM 1, pingM 2][0] = _ from pw_3]
  simp (disch := first | omega | assumption | (simp only [LL]; omega)) [WW, pw_3]
  refine (take_spec (l := [pingM 1, pingM 2, pingM 1]) (i := 0) pw_5 (by simp) (pw_ok3 _ _ _) _).mono ?_
  rintro _ _ ⟨rfl, rfl⟩
  simp (disch := first | omega | assumption | (simp only [LL]; omega)) [WW, pw_to]
end Go.Proofs.Ytjceilhmgbdgiaa

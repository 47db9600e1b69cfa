/- Fabrics: Bytes; Read of what Bytes gave. -/
import Derived.Test.YtjceilhmgbdgiaaZFB
set_option linter.all false
namespace Go.Proofs.Ytjceilhmgbdgiaa
open Go.Am

def oneF (m : Ms) : List UInt8 := leK 2 (seal_ (rawM m)).length ++ seal_ (rawM m)
def rawF (l : List Ms) : List UInt8 := l.flatMap oneF
theorem rawF_step (l : List Ms) (i : Nat) (h : i < l.length) : rawF (l.take (i + 1)) = rawF (l.take i) ++ oneF l[i] := by
  rw [List.take_succ_eq_append_getElem h, rawF, List.flatMap_append]
  simp [rawF]
theorem rawF_drop (l : List Ms) (i : Nat) (h : i < l.length) : rawF (l.drop i) = oneF l[i] ++ rawF (l.drop (i + 1)) := by
  rw [List.drop_eq_getElem_cons h, rawF, List.flatMap_cons]
  rfl
theorem one_len {m : Ms} (h : mayM m = true) : (seal_ (rawM m)).length ≤ 404 ∧ 13 ≤ (seal_ (rawM m)).length ∧ (oneF m).length = (seal_ (rawM m)).length + 2 := by
  have := raw_len h
  rw [seal_length]
  refine ⟨by omega, by omega, ?_⟩
  rw [oneF, List.length_append, leK_length, seal_length]
  omega
theorem rawF_len : ∀ (l : List Ms), (∀ m ∈ l, mayM m = true) → (rawF l).length ≤ 406 * l.length
  | [], _ => by simp [rawF]
  | m :: l, h => by
    have h1 := (one_len (h m (by simp)))
    have h2 := rawF_len l fun x hx => h x (by simp [hx])
    rw [rawF] at h2 ⊢
    rw [List.flatMap_cons, List.length_append, List.length_cons]
    omega
theorem checkF_may {l : List Ms} (h : checkF l = true) : ∀ m ∈ l, mayM m = true := by
  simp only [checkF, Bool.and_eq_true, List.all_eq_true] at h
  exact h.2
theorem fits2 {n : Nat} (h : n < 65536) : fitsK n 2 = true := by
  unfold fitsK
  refine decide_eq_true ⟨by decide, by decide, by omega, ?_⟩
  show (n : Int) / 65536 = 0
  omega
theorem fbytes_spec {l : List Ms} (hc : checkF l = true) (hw : okW l) (st : St) : ASpec Try.prog 36 [.agg [.sl .any (mls l)]] st fun v st' => v = .tup [.sl .any (ofBytes (rawF l)), .int .i64 0] ∧ st' = st := by
  refine pure_of (R := fun v => v = _) H2s F36 rfl ?_
  have hlen := checkF_len hc
  have hc2 : okW l ∧ l.length ≤ 1048576 := ⟨hw, by omega⟩
  have hmay := checkF_may hc
  simp (disch := first | omega | assumption | (simp only [LL]; omega)) [WW, c36, hc]
  refine awC_loopW (fun k env s => ∃ i t g gt, k + i = l.length ∧ env 2 = .sl t (ofBytes (rawF (l.take i))) ∧ env 15 = .sl .any (mls l) ∧ env 16 = .int .i64 l.length ∧ env 17 = .int .i64 i ∧ s = ⟨st.heap ++ g, st.toks ++ gt⟩) l.length ?_ ?_
  · exact ⟨0, .clip, [], [], by simp [rawF]⟩
  rintro k env s ⟨i, t, g, gt, hk, e2, e15, e16, e17, rfl⟩
  by_cases hi : i < l.length
  case neg =>
    have hi' : ¬ (i : Int) < l.length := by omega
    rw [List.take_of_length_le (by omega)] at e2
    simp (disch := first | omega | assumption | (simp only [LL]; omega)) [WW, e2, e15, e16, e17, hi']
  have hi' : (i : Int) < l.length := by omega
  have hwi := okW_get hw hi
  have hmi := hmay _ (List.getElem_mem hi)
  have hb : bytesM l[i] = (seal_ (rawM l[i]), 0) := by rw [bytesM, if_pos hmi]
  have hst := rawF_step l i hi
  have ho := one_len hmi
  have hrl := rawF_len (l.take i) fun m hm => hmay m (List.mem_of_mem_take hm)
  rw [List.length_take] at hrl
  have hob : oneF l[i] = leK 2 (seal_ (rawM l[i])).length ++ seal_ (rawM l[i]) := rfl
  obtain ⟨T, hT⟩ : ∃ T, T = st.toks ++ gt := ⟨_, rfl⟩
  obtain ⟨H, hH⟩ : ∃ H, H = st.heap ++ g := ⟨_, rfl⟩
  rw [← hT, ← hH]
  have hle : (leK 2 ↑(seal_ (rawM l[i])).length).length = 2 := leK_length _ _
  simp (disch := first | omega | assumption | (simp only [LL]; omega)) [WW, e2, e15, e16, e17, hi, hi', hwi, hb]
  refine (putK_spec (rawF (l.take i)) (seal_ (rawM l[i])).length 2 t (fits2 (by omega)) (by omega) _).mono ?_
  rintro _ _ ⟨rfl, rfl⟩
  simp (disch := first | omega | assumption | (simp only [LL]; omega)) [WW, e2, e15, e16, e17, hi, hi', hwi, hb, List.append_assoc]
  subst hT hH
  exact ⟨by omega, k - 1, by omega, i + 1, by omega, by rw [hst, hob], by omega, ⟨_, List.append_assoc _ _ _⟩, ⟨_, List.append_assoc _ _ _⟩⟩
end Go.Proofs.Ytjceilhmgbdgiaa

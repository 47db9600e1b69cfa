/- Fabrics: both Bytes of any mail. -/
import Derived.Test.YtjceilhmgbdgiaaZGB
set_option linter.all false
namespace Go.Proofs.Ytjceilhmgbdgiaa
open Go.Am

/-- Where the bytes so far lie. -/
def heldB (T0 : List (Nat × Nat)) (acc : List UInt8) (t : Tok) (T : List (Nat × Nat)) : Prop := (acc = [] ∧ t = .clip ∧ T = T0) ∨ (t = .own T0.length ∧ T = T0 ++ [(acc.length, 1)])
def bytesF (l : List Ms) : List UInt8 × Int := if checkF l = true then (rawF l, 0) else ([], 2)
theorem fbytes_all (l : List Ms) (hw : okW l) (hl : l.length ≤ 1048576) (st : St) : ASpec Try.prog 36 [.agg [.sl .any (mls l)]] st fun v st' => v = .tup [.sl .any (ofBytes (bytesF l).1), .int .i64 (bytesF l).2] ∧ st' = st := by
  by_cases hc : checkF l = true
  · rw [bytesF, if_pos hc]
    exact fbytes_spec hc hw st
  · have hc2 : okW l ∧ l.length ≤ 1048576 := ⟨hw, hl⟩
    rw [bytesF, if_neg hc]
    refine pure_of (R := fun v => v = _) I4s F36 rfl ?_
    simp (disch := first | omega | assumption | (simp only [LL]; omega)) [WW, c36, hc]
theorem and255 (n : Nat) (h : n < 2 ^ 63) : intBin .and .i64 (n : Int) 255 = some (.int .i64 (n % 256 : Nat)) := by
  show some (AV.int .i64 (IntKind.i64.wrap (((BitVec.ofInt 64 n &&& BitVec.ofInt 64 255).toNat : Nat) : Int))) = _
  rw [BitVec.toNat_and, BitVec.ofInt_natCast, BitVec.toNat_ofNat, Nat.mod_eq_of_lt (by omega)]
  rw [show (BitVec.ofInt 64 255).toNat = 2 ^ 8 - 1 from rfl, Nat.and_two_pow_sub_one_eq_mod, IntWalk.i64_in _ (by omega)]
theorem leK_2 (n : Nat) : leK 2 n = [UInt8.ofInt ((n % 256 : Nat) : Int), UInt8.ofInt ((n : Int) / 256)] := by
  show [UInt8.ofInt ((n : Int) / 2 ^ (8 * 0)), UInt8.ofInt ((n : Int) / 2 ^ (8 * 1))] = _
  rw [show (n : Int) / 2 ^ (8 * 0) = n by simp]
  have : UInt8.ofInt (n : Int) = UInt8.ofInt ((n % 256 : Nat) : Int) := UInt8.toNat_inj.1 (by simp [UInt8.ofInt]; try omega)
  rw [this]
  rfl
theorem rfbytes_spec (l : List Ms) (hw : okW l) (hl : l.length ≤ 1048576) (st : St) : ASpec Try.prog 37 [.agg [.sl .any (mls l)]] st fun v st' => v = .tup [.sl .any (ofBytes (bytesF l).1), .int .i64 (bytesF l).2] ∧ st' = st := by
  refine pure_of (R := fun v => v = _) I4s F37 rfl ?_
  have hc2 : okW l ∧ l.length ≤ 1048576 := ⟨hw, hl⟩
  by_cases hc : checkF l = true
  case neg =>
    rw [bytesF, if_neg hc]
    simp (disch := first | omega | assumption | (simp only [LL]; omega)) [WW, c37, hc]
  rw [bytesF, if_pos hc]
  have hlen := checkF_len hc
  have hmay := checkF_may hc
  simp (disch := first | omega | assumption | (simp only [LL]; omega)) [WW, c37, hc]
  refine awC_loopW (fun k env s => ∃ i t T, k + i = l.length ∧ env 1 = .rptr (.agg [.sl .any (mls l)]) ∧ env 4 = .sl t (ofBytes (rawF (l.take i))) ∧ env 5 = .int .i64 i ∧ s = ⟨st.heap, T⟩ ∧ heldB st.toks (rawF (l.take i)) t T) l.length ?_ ?_
  · exact ⟨0, .clip, st.toks, by simp, rfl, by simp [rawF], rfl, rfl, .inl ⟨by simp [rawF], rfl, rfl⟩⟩
  rintro k env s ⟨i, t, T, hk, e1, e4, e5, rfl, ht⟩
  by_cases hi : i < l.length
  case neg =>
    have hi' : ¬ (i : Int) < l.length := by omega
    rw [List.take_of_length_le (by omega)] at e4
    rcases ht with ⟨h1, rfl, rfl⟩ | ⟨rfl, rfl⟩
    · simp (disch := first | omega | assumption | (simp only [LL]; omega)) [WW, e1, e4, e5, hi']
    · simp (disch := first | omega | assumption | (simp only [LL]; omega)) [WW, e1, e4, e5, hi']
  have hi' : (i : Int) < l.length := by omega
  have hwi := okW_get hw hi
  have hmi := hmay _ (List.getElem_mem hi)
  have hb : bytesM l[i] = (seal_ (rawM l[i]), 0) := by rw [bytesM, if_pos hmi]
  have hst := rawF_step l i hi
  have ho := one_len hmi
  have hrl := rawF_len (l.take i) fun m hm => hmay m (List.mem_of_mem_take hm)
  rw [List.length_take] at hrl
  have hob : oneF l[i] = leK 2 (seal_ (rawM l[i])).length ++ seal_ (rawM l[i]) := rfl
  have ha := and255 (seal_ (rawM l[i])).length (by omega)
  rw [leK_2] at hob
  have hai : andI (seal_ (rawM l[i])).length 255 = ((seal_ (rawM l[i])).length % 256 : Nat) := by
    have h2 : some (AV.int .i64 (andI (seal_ (rawM l[i])).length 255)) = _ := ha
    injection h2 with h2
    injection h2
  rcases ht with ⟨h1, rfl, rfl⟩ | ⟨rfl, rfl⟩
  · rw [h1] at hst e4
    simp (disch := first | omega | assumption | (simp only [LL]; omega)) [WW, e1, e4, e5, hi, hi', hwi, hb, ha, shr_i64]
    rw [hai]
    exact ⟨by omega, k - 1, by omega, i + 1, by omega, _, ⟨rfl, by rw [hst, hob]; rfl⟩, by omega, .inr ⟨rfl, by rw [hst, hob]; simp; omega⟩⟩
  · simp (disch := first | omega | assumption | (simp only [LL]; omega)) [WW, e1, e4, e5, hi, hi', hwi, hb, ha, shr_i64]
    rw [hai]
    exact ⟨by omega, by omega, k - 1, by omega, i + 1, by omega, _, ⟨rfl, by rw [hst, hob]; rfl⟩, by omega, .inr ⟨rfl, by rw [hst, hob]; simp; omega⟩⟩
noncomputable def I5 : Orc := I4.add 37 (tab (fun x : List Ms => [.agg [.sl .any (mls x)]]) (fun x => .tup [.sl .any (ofBytes (bytesF x).1), .int .i64 (bytesF x).2]) fun x => okW x ∧ x.length ≤ 1048576)
theorem I5s : OSound Try.prog I5 := I4s.tab fun x h st => rfbytes_spec x h.1 h.2 st
@[simp] theorem I5_37 (l : List Ms) (h : okW l ∧ l.length ≤ 1048576) : I5 37 [.agg [.sl .any (mls l)]] = some (.tup [.sl .any (ofBytes (bytesF l).1), .int .i64 (bytesF l).2]) := by
  rw [I5, Orc.add_same]
  exact tab_eq (fun x y h => by simp at h; simp [h]) (x := (l)) h
@[simp] theorem I5_o (f : Nat) (args : List AV) (h : f ≠ 37) : I5 f args = I4 f args := by
  rw [I5, Orc.add_other _ _ _ _ _ h]
noncomputable def I6 : Orc := I5.add 36 (tab (fun x : List Ms => [.agg [.sl .any (mls x)]]) (fun x => .tup [.sl .any (ofBytes (bytesF x).1), .int .i64 (bytesF x).2]) fun x => okW x ∧ x.length ≤ 1048576)
theorem I6s : OSound Try.prog I6 := I5s.tab fun x h st => fbytes_all x h.1 h.2 st
@[simp] theorem I6_36 (l : List Ms) (h : okW l ∧ l.length ≤ 1048576) : I6 36 [.agg [.sl .any (mls l)]] = some (.tup [.sl .any (ofBytes (bytesF l).1), .int .i64 (bytesF l).2]) := by
  rw [I6, Orc.add_same]
  exact tab_eq (fun x y h => by simp at h; simp [h]) (x := (l)) h
@[simp] theorem I6_o (f : Nat) (args : List AV) (h : f ≠ 36) : I6 f args = I5 f args := by
  rw [I6, Orc.add_other _ _ _ _ _ h]
end Go.Proofs.Ytjceilhmgbdgiaa

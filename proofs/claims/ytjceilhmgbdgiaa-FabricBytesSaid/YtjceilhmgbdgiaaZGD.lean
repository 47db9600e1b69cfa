/- Fabrics: the program's Read of any bytes. -/
import Derived.Test.YtjceilhmgbdgiaaZGC
set_option linter.all false
namespace Go.Proofs.Ytjceilhmgbdgiaa
open Go.Am

/-- The first message of bytes, and those behind it. -/
def headF (b : List UInt8) (have_ : Nat) : Option (Ms × List UInt8) :=
  if b.length < 2 ∨ have_ = 200 ∨ b.length < 2 + numK (b.take 2) then none
  else if (readM ((b.drop 2).take (numK (b.take 2)))).2 = 0 then some ((readM ((b.drop 2).take (numK (b.take 2)))).1, b.drop (2 + numK (b.take 2))) else none
theorem headF_len {b r : List UInt8} {n : Nat} {m : Ms} (h : headF b n = some (m, r)) : r.length + 2 ≤ b.length ∧ mayM m = true ∧ n ≠ 200 := by
  unfold headF at h
  split at h
  · cases h
  rename_i hc
  split at h
  · rename_i hr
    injection h with h
    injection h with h1 h2
    refine ⟨?_, ?_, by omega⟩
    · rw [← h2, List.length_drop]; omega
    · rw [← h1]
      exact (read_inv (o := (readM ((b.drop 2).take (numK (b.take 2)))).1) (Prod.ext rfl hr)).1
  · cases h
theorem next_all (b : List UInt8) (acc : List Ms) (t : Tok) (H g : List Blk) (T0 T : List (Nat × Nat)) (ht : heldF T0 acc t T) (ha : acc.length ≤ 200) (hb : b.length ≤ 500000) :
    ASpec Try.prog 95 [.ptr H.length 0] ⟨H ++ .cells false [.sl .any (ofBytes b), .sl t (mls acc)] :: g, T⟩ fun v st' => v = .bool (headF b acc.length).isSome ∧ ∃ g' B' gt', st' = ⟨H ++ B' :: g', T0 ++ gt'⟩ ∧ ∀ m r, headF b acc.length = some (m, r) → B' = .cells false [.sl .any (ofBytes r), .sl (.own T0.length) (mls (acc ++ [m]))] ∧ gt' = [(acc.length + 1, 24)] := by
  refine raw_of I6s F95 rfl ?_
  have hT : ∃ gt, T = T0 ++ gt := by
    rcases ht with ⟨_, _, rfl⟩ | ⟨_, rfl⟩
    · exact ⟨[], by simp⟩
    · exact ⟨_, rfl⟩
  obtain ⟨gt, hT⟩ := hT
  by_cases h2 : b.length < 2
  · have hg : getK b 0 2 = .tup [.int .i64 0, .int .i64 40] := by rw [getK, if_neg (by omega), if_pos (by omega)]
    have hh : headF b acc.length = none := by rw [headF, if_pos (by omega)]
    simp (disch := first | omega | assumption | (simp only [LL]; omega)) [WW, c95, hg, hh]
    exact .inl ⟨by simp, by simp, rfl, _, _, gt, by rw [hT]⟩
  generalize hn : numK (b.take 2) = n
  have hnl : n < 65536 := by
    have := numK_lt (b.take 2)
    rw [hn, List.length_take, Nat.min_eq_left (by omega)] at this
    omega
  have hg : getK b 0 2 = .tup [.int .i64 n, .int .i64 0] := by
    rw [getK, if_neg (by omega), if_neg (by omega), ← hn]
    rfl
  by_cases h3 : b.length < 2 + n
  · have hh : headF b acc.length = none := by rw [headF, if_pos (by omega)]
    have h3' : (b.length : Int) - 2 < n := by omega
    simp (disch := first | omega | assumption | (simp only [LL]; omega)) [WW, c95, hg, hh, h3']
    exact .inl ⟨by simp, by simp, rfl, _, _, gt, by rw [hT]⟩
  have h3' : ¬ (b.length : Int) - 2 < n := by omega
  by_cases h4 : acc.length = 200
  · have hh : headF b 200 = none := by rw [headF, if_pos (by omega)]
    have h4' : (acc.length : Int) = 200 := by omega
    simp (disch := first | omega | assumption | (simp only [LL]; omega)) [WW, c95, hg, hh, h3', h4]
    exact .inl ⟨by simp, by simp, rfl, _, _, gt, by rw [hT]⟩
  have h4' : ¬ (acc.length : Int) = 200 := by omega
  have hsl : (b.drop 2).take (((2 : Int) + n).toNat - 2) = (b.drop 2).take n := by
    rw [show ((2 : Int) + n).toNat - 2 = n by omega]
  have hdr : b.drop ((2 : Int) + n).toNat = b.drop (2 + n) := by
    rw [show ((2 : Int) + n).toNat = 2 + n by omega]
  generalize hr : readM ((b.drop 2).take n) = R at *
  obtain ⟨m, e⟩ := R
  have hrr : (b.drop (2 + n)).take (b.length - ((2 : Int) + n).toNat) = b.drop (2 + n) := List.take_of_length_le (by rw [List.length_drop]; omega)
  have hl2 : ((b.drop 2).take n).length ≤ 1000000 := by rw [List.length_take, List.length_drop]; omega
  have hh : headF b acc.length = if e = 0 then some (m, b.drop (2 + n)) else none := by rw [headF, if_neg (by omega), hn, hr]
  have hR : ∀ {B : Blk} {tk : Nat × Nat}, B = .cells false [.sl .any (ofBytes (b.drop (2 + n))), .sl (.own T0.length) (mls (acc ++ [m]))] → tk = (acc.length + 1, 24) → ∀ g' : List Blk, (decide (e = 0) = (headF b acc.length).isSome ∧ ∃ g'' B' gt', (⟨H ++ B :: g', T0 ++ [tk]⟩ : St) = ⟨H ++ B' :: g'', T0 ++ gt'⟩ ∧ ∀ m r, headF b acc.length = some (m, r) → B' = .cells false [.sl .any (ofBytes r), .sl (.own T0.length) (mls (acc ++ [m]))] ∧ gt' = [(acc.length + 1, 24)]) := by
    rintro _ _ rfl rfl g'
    rw [hh]
    by_cases he : e = 0
    · rw [if_pos he]
      refine ⟨by simp [he], g', _, _, rfl, ?_⟩
      rintro m' r' h
      injection h with h
      injection h with h1 h2
      rw [h1, h2]
      exact ⟨rfl, rfl⟩
    · rw [if_neg he]
      exact ⟨by simp [he], g', _, _, rfl, fun _ _ h => by cases h⟩
  clear hT
  rcases ht with ⟨rfl, rfl, rfl⟩ | ⟨rfl, rfl⟩
  · simp (disch := first | omega | assumption | (simp only [LL]; omega)) [WW, c95, hg, h3', hsl, hdr, hl2, hrr, hr]
    refine ⟨by omega, by omega, by omega, by omega, region_static rfl (by decide +kernel) ?_⟩
    simp (disch := first | omega | assumption | (simp only [LL]; omega)) [WW, mls_nil, hsl, hrr, hr, hdr]
    refine .inl ⟨by simp, by simp, ?_⟩
    obtain ⟨r1, r2⟩ := hR rfl rfl (g ++ [_])

    exact ⟨congrArg AV.bool r1, r2⟩
  · simp (disch := first | omega | assumption | (simp only [LL]; omega)) [WW, c95, hg, h3', hsl, hdr, hl2, hrr, hr, h4']
    refine ⟨by omega, by omega, by omega, by omega, region_static rfl (by decide +kernel) ?_⟩
    simp (disch := first | omega | assumption | (simp only [LL]; omega)) [WW, mls_nil, hsl, hrr, hr, hdr]
    refine ⟨by omega, .inl ⟨by simp, by simp, ?_⟩⟩
    obtain ⟨r1, r2⟩ := hR rfl rfl (g ++ [_])
    exact ⟨congrArg AV.bool r1, r2⟩
end Go.Proofs.Ytjceilhmgbdgiaa

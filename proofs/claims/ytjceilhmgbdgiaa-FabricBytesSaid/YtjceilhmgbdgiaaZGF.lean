/- Fabrics: the reference's Read of any bytes. -/
import Derived.Test.YtjceilhmgbdgiaaZGE
set_option linter.all false
namespace Go.Proofs.Ytjceilhmgbdgiaa
open Go.Am

theorem numK_two (a b : UInt8) : numK [a, b] = a.toNat + 256 * b.toNat := rfl
theorem heldF_pre {T0 T : List (Nat × Nat)} {acc : List Ms} {t : Tok} (h : heldF T0 acc t T) : T0 <+: T := by
  rcases h with ⟨_, _, rfl⟩ | ⟨_, rfl⟩
  · exact List.prefix_refl _
  · exact List.prefix_append _ _
set_option maxRecDepth 4000 in
theorem rfread_all (b : List UInt8) (hb : b.length ≤ 500000) (st : St) : ASpec Try.prog 39 [.sl .any (ofBytes b)] st fun v st' => v = .tup [.agg [.sl .any (mls (readF b.length b []).1)], .int .i64 (readF b.length b []).2] ∧ st' = st := by
  refine pure_of (R := fun v => v = _) I6s F39 rfl ?_
  simp (disch := first | omega | assumption | (simp only [LL]; omega)) [WW, c39]
  refine awC_loopW (fun k env s => ∃ at_ t acc g T, b.length - at_ ≤ k ∧ at_ ≤ b.length ∧ readF k (b.drop at_) acc = readF b.length b [] ∧ acc.length ≤ 200 ∧ env 0 = .sl .any (ofBytes b) ∧ env 2 = .ptr st.heap.length 0 ∧ env 4 = .ptr (st.heap.length + 1) 0 ∧ env 5 = .int .i64 (at_ : Nat) ∧ s = ⟨st.heap ++ .cells false [.sl .clip []] :: .cells false [.sl t (mls acc)] :: g, T⟩ ∧ heldF st.toks acc t T) b.length ?_ ?_
  · exact ⟨0, .clip, [], [], st.toks, by omega, by omega, by simp, by simp, rfl, rfl, rfl, rfl, by simp, .inl ⟨rfl, rfl, rfl⟩⟩
  rintro k env s ⟨i, t, acc, g, T, hk, hil, hR, ha, e0, e2, e4, e5, rfl, ht⟩
  by_cases hi : b.length = i
  · rw [readF_nil (by simp; omega)] at hR
    rw [← hR]
    have hi' : ¬ (i : Int) < b.length := by omega
    rcases ht with ⟨rfl, rfl, rfl⟩ | ⟨rfl, rfl⟩
    · simp (disch := first | omega | assumption | (simp only [LL]; omega)) [WW, e0, e2, e4, e5, hi']
    · simp (disch := first | omega | assumption | (simp only [LL]; omega)) [WW, e0, e2, e4, e5, hi']
  have hi' : (i : Int) < b.length := by omega
  obtain ⟨k, rfl⟩ : ∃ k', k = k' + 1 := ⟨k - 1, by omega⟩
  rw [readF, if_neg (by simp; omega)] at hR
  by_cases h2 : (b.drop i).length < 2
  · have hh : headF (b.drop i) acc.length = none := by rw [headF, if_pos (by omega)]
    rw [hh] at hR
    rw [List.length_drop] at h2
    have h2' : (b.length : Int) - i < 2 := by omega
    rw [← hR]
    simp (disch := first | omega | assumption | (simp only [LL]; omega)) [WW, e0, e2, e4, e5, hi', h2']
    exact heldF_pre ht
  have h2' : ¬ (b.length : Int) - i < 2 := by rw [List.length_drop] at h2; omega
  by_cases h4 : acc.length = 200
  · have hh : headF (b.drop i) acc.length = none := by rw [headF, if_pos (by omega)]
    rw [hh] at hR
    rw [← hR]
    simp (disch := first | omega | assumption | (simp only [LL]; omega)) [WW, e0, e2, e4, e5, hi', h2', h4]
    exact heldF_pre ht
  have h4' : ¬ 200 ≤ (acc.length : Int) := by omega
  simp (disch := first | omega | assumption | (simp only [LL]; omega)) [WW, e0, e2, e4, e5, hi', h2', h4']
  have hi0 : i < b.length := by omega
  have hi1 : i + 1 < b.length := by omega
  have hz : (b.drop i).take 2 = [b[i], b[i + 1]] := by
    rw [List.drop_eq_getElem_cons hi0, List.drop_eq_getElem_cons hi1]
    rfl
  have hb0 := (b[i]).toNat_lt
  have hb1 := (b[i + 1]).toNat_lt
  generalize hn : numK ((b.drop i).take 2) = n
  have hn' : b[i].toNat + 256 * b[i + 1].toNat = n := by rw [← hn, hz, numK_two]
  have s1 : shiftBin .shl .i64 (b[i + 1].toNat : Int) 8 = some (.int .i64 (b[i + 1].toNat * 256 : Nat)) := shl_i64k _ 8 (by omega) (by omega)
  have s2 : intBin .or .i64 (b[i].toNat : Int) ((b[i + 1].toNat : Int) * 256) = some (.int .i64 n) := by
    have hc : ((b[i + 1].toNat : Int) * 256) = ((b[i + 1].toNat * 256 : Nat) : Int) := by simp
    rw [hc, or_i64k _ _ (by omega) (by omega)]
    have h := Nat.two_pow_add_eq_or_of_lt (b := b[i].toNat) (i := 8) (by omega) (b[i + 1].toNat)
    congr 3
    rw [Nat.or_comm, Nat.mul_comm, ← hn']
    exact h.symm.trans (by omega)
  have hti : ((i : Int) + 1).toNat = i + 1 := by omega
  have hgi : (ofBytes b)[((i : Int) + 1).toNat]? = some (u8 b[i + 1]) := by rw [hti, ofBytes_get, List.getElem?_eq_getElem hi1]; rfl
  refine region_static rfl (by decide +kernel) ?_
  have h0i : 0 ≤ (i : Int) + 1 := by omega
  have hdl : (b.drop i).length = b.length - i := List.length_drop
  have hpre := heldF_pre ht
  by_cases h3 : (b.length : Int) - (i + 2) < n
  · have hh : headF (b.drop i) acc.length = none := by rw [headF, if_pos (by omega)]
    rw [hh] at hR
    rw [← hR]
    simp (disch := first | omega | assumption | (simp only [LL]; omega)) [WW, e0, e2, e4, e5, hi0, hi1, hgi, s1, s2, h0i, h3]
    exact hpre
  generalize hr : readM (((b.drop i).drop 2).take n) = R at *
  obtain ⟨m, e⟩ := R
  have hsl : (b.drop ((i : Int) + 2).toNat).take (((i : Int) + 2 + n).toNat - ((i : Int) + 2).toNat) = (b.drop (i + 2)).take n := by
    rw [show ((i : Int) + 2 + n).toNat - ((i : Int) + 2).toNat = n by omega, show ((i : Int) + 2).toNat = i + 2 by omega]
  have hr' : readM ((b.drop (i + 2)).take n) = (m, e) := by rw [← List.drop_drop]; exact hr
  have hl2 : ((b.drop (i + 2)).take n).length ≤ 1000000 := by rw [List.length_take, List.length_drop]; omega
  by_cases he : e = 0
  case neg =>
    have hh : headF (b.drop i) acc.length = none := by rw [headF, if_neg (by omega), hn, hr, if_neg he]
    rw [hh] at hR
    rw [← hR]
    simp (disch := first | omega | assumption | (simp only [LL]; omega)) [WW, e0, e2, e4, e5, hi0, hi1, hgi, s1, s2, h0i, h3, hsl, hl2, hr', he]
    exact ⟨⟨by omega, by omega⟩, ⟨by omega, by omega⟩, hpre⟩
  subst he
  have hh : headF (b.drop i) acc.length = some (m, (b.drop i).drop (2 + n)) := by rw [headF, if_neg (by omega), hn, hr, if_pos rfl]
  rw [hh] at hR
  have hR : readF k ((b.drop i).drop (2 + n)) (acc ++ [m]) = readF b.length b [] := hR
  rw [List.drop_drop, show i + (2 + n) = i + 2 + n by omega] at hR
  rcases ht with ⟨rfl, rfl, rfl⟩ | ⟨rfl, rfl⟩
  · simp (disch := first | omega | assumption | (simp only [LL]; omega)) [WW, e0, e2, e4, e5, hi0, hi1, hgi, s1, s2, h0i, h3, hsl, hl2, hr', h4']
    refine ⟨⟨by omega, by omega⟩, ⟨by omega, by omega⟩, ?_⟩
    exact ⟨k, by omega, i + 2 + n, by omega, by omega, _, [m], hR, by simp, by omega, _, _, ⟨⟨⟨rfl, rfl⟩, rfl⟩, rfl⟩, .inr ⟨rfl, rfl⟩⟩
  · simp (disch := first | omega | assumption | (simp only [LL]; omega)) [WW, e0, e2, e4, e5, hi0, hi1, hgi, s1, s2, h0i, h3, hsl, hl2, hr', h4']
    refine ⟨⟨by omega, by omega⟩, ⟨by omega, by omega⟩, ?_⟩
    exact ⟨by omega, k, by omega, i + 2 + n, by omega, by omega, _, acc ++ [m], hR, by simp; omega, by omega, _, _, ⟨⟨⟨rfl, rfl⟩, rfl⟩, rfl⟩, .inr ⟨rfl, by simp⟩⟩
end Go.Proofs.Ytjceilhmgbdgiaa

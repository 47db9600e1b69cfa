/- Fabrics: Read of what Bytes gave. -/
import Derived.Test.YtjceilhmgbdgiaaZFD
set_option linter.all false
namespace Go.Proofs.Ytjceilhmgbdgiaa
open Go.Am

theorem numK_leK2 {n : Nat} (h : n < 65536) (r : List UInt8) : getK (leK 2 n ++ r) 0 2 = .tup [.int .i64 n, .int .i64 0] := by
  rw [getK, if_neg (by omega), if_neg (by simp; omega)]
  have h0 : UInt8.ofInt ((n : Int) / 2 ^ (8 * 0)) = UInt8.ofNat n := by
    rw [show (n : Int) / 2 ^ (8 * 0) = n by simp]
    exact UInt8.toNat_inj.1 (by simp [UInt8.ofInt]; omega)
  have h1 : UInt8.ofInt ((n : Int) / 2 ^ (8 * 1)) = UInt8.ofNat (n / 256) := by
    rw [show (n : Int) / 2 ^ (8 * 1) = (n / 256 : Nat) by simp]
    exact UInt8.toNat_inj.1 (by simp [UInt8.ofInt]; omega)
  have hl : leK 2 n = [UInt8.ofNat n, UInt8.ofNat (n / 256)] := by
    show [UInt8.ofInt ((n : Int) / 2 ^ (8 * 0)), UInt8.ofInt ((n : Int) / 2 ^ (8 * 1))] = _
    rw [h0, h1]
  rw [hl]
  simp [numK]
  omega
/-- Where the messages read so far lie. -/
def heldF (T0 : List (Nat × Nat)) (acc : List Ms) (t : Tok) (T : List (Nat × Nat)) : Prop := (acc = [] ∧ t = .clip ∧ T = T0) ∨ (t = .own T0.length ∧ T = T0 ++ [(acc.length, 24)])
theorem next_spec {m : Ms} (hm : mayM m = true) (rest : List UInt8) (acc : List Ms) (t : Tok) (H g : List Blk) (T0 T : List (Nat × Nat)) (ht : heldF T0 acc t T) (ha : acc.length < 200) (hr : rest.length ≤ 500000) :
    ASpec Try.prog 95 [.ptr H.length 0] ⟨H ++ .cells false [.sl .any (ofBytes (oneF m ++ rest)), .sl t (mls acc)] :: g, T⟩ fun v st' => v = .bool true ∧ ∃ g', st' = ⟨H ++ .cells false [.sl .any (ofBytes rest), .sl (.own T0.length) (mls (acc ++ [m]))] :: g', T0 ++ [((acc ++ [m]).length, 24)]⟩ := by
  refine raw_of H5s F95 rfl ?_
  have ho := one_len hm
  have hg : getK (oneF m ++ rest) 0 2 = .tup [.int .i64 (seal_ (rawM m)).length, .int .i64 0] := by
    rw [oneF, List.append_assoc]
    exact numK_leK2 (by omega) _
  have hlen : (oneF m ++ rest).length = (seal_ (rawM m)).length + 2 + rest.length := by rw [List.length_append, ho.2.2]
  have hl1 : (oneF m ++ rest).length ≤ 1048576 := by omega
  have hq : ¬ (((seal_ (rawM m)).length : Int) + 2 + rest.length - 2 < (seal_ (rawM m)).length) := by omega
  have hlk : (leK 2 ↑(seal_ (rawM m)).length).length = 2 := leK_length _ _
  have hsl : ((oneF m ++ rest).drop 2).take (((2 : Int) + (seal_ (rawM m)).length).toNat - 2) = seal_ (rawM m) := by
    rw [oneF, show ((2 : Int) + (seal_ (rawM m)).length).toNat = 2 + (seal_ (rawM m)).length by omega]
    simp [List.take_append, List.drop_append, hlk]
  have hdr : (oneF m ++ rest).drop ((2 : Int) + (seal_ (rawM m)).length).toNat = rest := by
    rw [show ((2 : Int) + (seal_ (rawM m)).length).toNat = (oneF m).length by omega]
    simp
  have hrr : rest.take ((seal_ (rawM m)).length + 2 + rest.length - ((2 : Int) + (seal_ (rawM m)).length).toNat) = rest := List.take_of_length_le (by omega)
  have hl2 : (seal_ (rawM m)).length ≤ 1000000 := by omega
  rcases ht with ⟨rfl, rfl, rfl⟩ | ⟨rfl, rfl⟩
  · simp (disch := first | omega | assumption | (simp only [LL]; omega)) [WW, c95, hg, hlen, hq, hsl, hdr, read_back hm, hl2, hrr]
    refine ⟨by omega, by omega, by omega, by omega, region_static rfl (by decide +kernel) ?_⟩
    simp (disch := first | omega | assumption | (simp only [LL]; omega)) [WW, mls_nil, hsl, hrr, read_back hm]
    exact .inl ⟨by simp, by simp, rfl, _, rfl⟩
  · have ha' : (acc.length : Int) ≠ 200 := by omega
    simp (disch := first | omega | assumption | (simp only [LL]; omega)) [WW, c95, hg, hlen, hq, hsl, hdr, read_back hm, hl2, hrr, ha']
    refine ⟨by omega, by omega, by omega, by omega, region_static rfl (by decide +kernel) ?_⟩
    simp (disch := first | omega | assumption | (simp only [LL]; omega)) [WW, mls_nil, hsl, hrr, read_back hm]
    exact ⟨by omega, .inl ⟨by simp, by simp, rfl, _, rfl⟩⟩
theorem rawF_nil : rawF [] = [] := rfl
theorem fread_spec {l : List Ms} (hc : checkF l = true) (st : St) : ASpec Try.prog 38 [.sl .any (ofBytes (rawF l))] st fun v st' => v = .tup [.agg [.sl .any (mls l)], .int .i64 0] ∧ st' = st := by
  refine pure_of (R := fun v => v = _) H5s F38 rfl ?_
  have hlen := checkF_len hc
  have hmay := checkF_may hc
  have hrl := rawF_len l hmay
  simp (disch := first | omega | assumption | (simp only [LL]; omega)) [WW, c38]
  refine awC_loopW (fun k env s => ∃ i t g T, k + i = l.length ∧ env 2 = .ptr st.heap.length 0 ∧ env 4 = .ptr (st.heap.length + 1) 0 ∧ env 5 = .fn (.func 95) [.ptr (st.heap.length + 1) 0] [] ∧ s = ⟨st.heap ++ .cells false [.sl .clip []] :: .cells false [.sl .any (ofBytes (rawF (l.drop i))), .sl t (mls (l.take i))] :: g, T⟩ ∧ heldF st.toks (l.take i) t T) l.length ?_ ?_
  · exact ⟨0, .clip, [], st.toks, by simp, rfl, rfl, rfl, by simp, .inl ⟨rfl, rfl, rfl⟩⟩
  rintro k env s ⟨i, t, g, T, hk, e2, e4, e5, rfl, ht⟩
  by_cases hi : i < l.length
  case neg =>
    have hdr : l.drop i = [] := List.drop_of_length_le (by omega)
    have htk : l.take i = l := List.take_of_length_le (by omega)
    rcases ht with ⟨h1, rfl, rfl⟩ | ⟨rfl, rfl⟩
    · simp (disch := first | omega | assumption | (simp only [LL]; omega)) [WW, e2, e4, e5, hdr, htk, rawF_nil]
    · simp (disch := first | omega | assumption | (simp only [LL]; omega)) [WW, e2, e4, e5, hdr, htk, rawF_nil]
  have hst := rawF_drop l i hi
  have hmi := hmay _ (List.getElem_mem hi)
  have ho := one_len hmi
  have hpos : (0 : Int) < (oneF l[i]).length + (rawF (l.drop (i + 1))).length := by omega
  have hr2 := rawF_len (l.drop (i + 1)) fun m hm => hmay m (List.mem_of_mem_drop hm)
  rw [List.length_drop] at hr2
  have hn := next_spec hmi (rawF (l.drop (i + 1))) (l.take i) t (st.heap ++ [.cells false [.sl .clip []]]) g st.toks T ht (by rw [List.length_take]; omega) (by omega)
  simp only [List.append_assoc, List.cons_append, List.nil_append, List.length_append, List.length_cons, List.length_nil, Nat.zero_add] at hn
  simp (disch := first | omega | assumption | (simp only [LL]; omega)) [WW, e2, e4, e5, hst, hpos]
  refine hn.mono ?_
  rintro _ _ ⟨rfl, g', rfl⟩
  simp (disch := first | omega | assumption | (simp only [LL]; omega)) [WW, e2, e4, e5, hst, hpos]
  exact ⟨k - 1, by omega, i + 1, by omega, .own st.toks.length, g', _, ⟨⟨⟨rfl, rfl, by omega⟩, rfl⟩, rfl⟩, .inr ⟨rfl, by rw [List.length_take, Nat.min_eq_left (by omega)]⟩⟩
end Go.Proofs.Ytjceilhmgbdgiaa

/- Records: there and back, no beginning, nothing behind: in plain words. -/
import Derived.Test.YtchaakjbedkndaaZR
set_option linter.all false
namespace Go.Proofs.Ytchaakjbedkndaa
open Go.Am

theorem rd_put_u {r : Rc} (hk : 1 ≤ r.kind ∧ r.kind ≤ 7) (hs : suchR r = true) (u : List UInt8) : rdBody r.kind (putR r ++ u, false) = (fieldsR r, (u, false)) := by
  unfold suchR at hs
  obtain h | h | h | h | h | h | h : r.kind = 1 ∨ r.kind = 2 ∨ r.kind = 3 ∨ r.kind = 4 ∨ r.kind = 5 ∨ r.kind = 6 ∨ r.kind = 7 := by omega
  · simp [h] at hs
    have := rdWr_put (written_all hs.2) (by have := written_len hs.2; omega) u
    simp [rdBody, putR, tailR, fieldsR, h, rdNm_put hs.1, this]
  · simp [h] at hs
    have hg := hs.2.2
    unfold given at hg
    simp only [decide_eq_true_eq] at hg
    simp [rdBody, putR, tailR, fieldsR, h, rdNm_put hs.1, rdWr_put (written_all hs.2.1) (by have := written_len hs.2.1; omega), rd1_put (n := r.give) (by omega), rd1_put (n := r.take) (by omega)]
  · simp [h] at hs
    cases hy : r.yes <;> simp [rdBody, putR, tailR, fieldsR, h, rdNm_put hs, rdF, rd1_cons, hy]
  · simp [h] at hs
    have h1 := hs.2.1
    have h2 := hs.2.2
    unfold shardsOk at h1
    unfold changed at h2
    simp only [decide_eq_true_eq] at h1 h2
    simp [-UInt8.ofInt_add, rdBody, putR, tailR, fieldsR, h, rdNm_put hs.1, rd1_put (n := r.shards) (by omega), rd1_put (n := r.stripe + 1) (by omega), rd1_put (n := r.to) (by omega)]
  · simp [h] at hs
    simp [rdBody, putR, tailR, fieldsR, h, rdNm_put hs]
  · simp [h] at hs
    simp [rdBody, putR, fieldsR, h, rd3_put (n := r.n) (by omega)]
  · simp [h] at hs
    simp [rdBody, putR, fieldsR, h, rd3_put (n := r.n) (by omega)]
theorem rd1_inv {s : RS} {t : List UInt8} (h : (rd1 s).2 = (t, false)) : ∃ x, s = (x :: t, false) := by
  obtain ⟨l, b⟩ := s
  cases l with
  | nil => simp [rd1] at h
  | cons x l =>
    simp only [rd1_cons, Prod.mk.injEq] at h
    exact ⟨x, by rw [h.1, h.2]⟩
theorem le3_inv (x y z : UInt8) : le3 ((x.toNat : Int) + 256 * y.toNat + 65536 * z.toNat) = [x, y, z] := by
  have hx := x.toNat_lt
  have hy := y.toNat_lt
  have hz := z.toNat_lt
  have e (a : Int) (b : UInt8) (h0 : 0 ≤ a) (h : a % 256 = b.toNat) : UInt8.ofInt a = b := by
    apply UInt8.toNat_inj.1
    have := ofInt_nat' a h0
    omega
  rw [le3, e _ x (by omega) (by omega), e _ y (by omega) (by omega), e _ z (by omega) (by omega)]
theorem rd3_inv {s : RS} {t : List UInt8} (h : (rd3 s).2 = (t, false)) : s = (le3 (rd3 s).1 ++ t, false) := by
  obtain ⟨z, h1⟩ := rd1_inv h
  obtain ⟨y, h2⟩ := rd1_inv h1
  obtain ⟨x, rfl⟩ := rd1_inv h2
  simp [rd3, rd1_cons, le3_inv]
theorem rdNm_inv {s : RS} {t : List UInt8} (h : (rdNm s).2 = (t, false)) : s = (nmB (rdNm s).1 ++ t, false) := by
  have h1 := rd3_inv h
  have h2 := rd3_inv h1
  have h3 := rd3_inv h2
  simp only [rdNm, nmB, List.append_assoc]
  exact h3
theorem rdn_inv {s : RS} {t : List UInt8} (h : rdn 8 s = (t, false)) : ∃ a b c d e f g h, s = (a :: b :: c :: d :: e :: f :: g :: h :: t, false) := by
  obtain ⟨x7, h⟩ := rd1_inv h
  obtain ⟨x6, h⟩ := rd1_inv h
  obtain ⟨x5, h⟩ := rd1_inv h
  obtain ⟨x4, h⟩ := rd1_inv h
  obtain ⟨x3, h⟩ := rd1_inv h
  obtain ⟨x2, h⟩ := rd1_inv h
  obtain ⟨x1, h⟩ := rd1_inv h
  obtain ⟨x0, h⟩ := rd1_inv h
  exact ⟨x0, x1, x2, x3, x4, x5, x6, x7, h⟩
theorem rdW1_inv {s : RS} {t : List UInt8} (h : (rdW1 s).2 = (t, false)) : s = (wb (rdW1 s).1 ++ t, false) := by
  obtain ⟨a, b, c, d, e, f, g, h, hs⟩ := rdn_inv h
  obtain ⟨x, rfl⟩ := rd1_inv hs
  simp [rdW1, wb, rd1_cons, rdB, rdn, ofInt_toNat]
theorem rdWs_inv : ∀ (n : Nat) {s : RS} {t : List UInt8}, (rdWs n s).2 = (t, false) → (rdWs n s).1.length = n ∧ s = (((rdWs n s).1.map wb).flatten ++ t, false)
  | 0, s, t, h => by simp [rdWs] at h ⊢; exact h
  | n + 1, s, t, h => by
    rw [rdWs] at h ⊢
    split at h
    · rename_i hb
      simp only at h
      rw [h] at hb
      simp at hb
    · rename_i hb
      simp only at h
      rw [if_neg hb]
      obtain ⟨h1, h2⟩ := rdWs_inv n h
      have h3 := rdW1_inv h2
      refine ⟨by simp [h1], ?_⟩
      simp only [List.map_cons, List.flatten_cons, List.append_assoc]
      exact h3
theorem rdWr_inv {s : RS} {t : List UInt8} (h : (rdWr s).2 = (t, false)) : s = (wsB (rdWr s).1 ++ t, false) := by
  obtain ⟨h1, h2⟩ := rdWs_inv _ h
  obtain ⟨x, hx⟩ := rd1_inv h2
  have hn : ((rdWr s).1.length : Int) = x.toNat := by
    rw [rdWr, h1, hx, rd1_cons]; rfl
  rw [wsB, hn, ofInt_toNat]
  exact hx
theorem rdF_inv {s : RS} {t : List UInt8} (h : (rdF s).2 = (t, false)) : s = ((if (rdF s).1 then 1 else 0) :: t, false) := by
  obtain ⟨l, b⟩ := s
  cases l with
  | nil => simp [rdF, rd1] at h
  | cons x l =>
    simp only [rdF, rd1_cons, Prod.mk.injEq, Bool.or_eq_false_iff, decide_eq_false_iff_not] at h ⊢
    obtain ⟨rfl, rfl, h1⟩ := h
    have hx : x = 0 ∨ x = 1 := by
      have h1 := of_decide_eq_false h1
      have : x.toNat = 0 ∨ x.toNat = 1 := by omega
      rcases this with h | h
      · exact .inl (UInt8.toNat_inj.1 h)
      · exact .inr (UInt8.toNat_inj.1 h)
    rcases hx with rfl | rfl <;> simp
theorem body_inv {k : Int} (hk : 1 ≤ k ∧ k ≤ 7) {s : RS} {t : List UInt8} (h : (rdBody k s).2 = (t, false)) : s = (putR (rdBody k s).1 ++ t, false) := by
  obtain e | e | e | e | e | e | e : k = 1 ∨ k = 2 ∨ k = 3 ∨ k = 4 ∨ k = 5 ∨ k = 6 ∨ k = 7 := by omega
  all_goals
    subst e
    simp [-UInt8.ofInt_add, rdBody, putR, tailR] at h ⊢
  · have h1 := rdNm_inv (rdWr_inv h)
    exact h1
  · obtain ⟨y, h1⟩ := rd1_inv h
    obtain ⟨x, h2⟩ := rd1_inv h1
    have h3 := rdNm_inv (rdWr_inv h2)
    rw [h2]
    simpa [rd1_cons, ofInt_toNat] using h3
  · exact rdNm_inv (rdF_inv h)
  · obtain ⟨z, h1⟩ := rd1_inv h
    obtain ⟨y, h2⟩ := rd1_inv h1
    obtain ⟨x, h3⟩ := rd1_inv h2
    have h4 := rdNm_inv h3
    rw [h3]
    simpa [rd1_cons, ofInt_toNat] using h4
  · exact rdNm_inv h
  · exact rd3_inv h
  · exact rd3_inv h
/-- What reads is its record's bytes. -/
theorem read_inv {b : List UInt8} (h : (readR b).2 = 0) : mayR (readR b).1 = true ∧ recB (readR b).1 = b := by
  unfold readR at h ⊢
  cases b with
  | nil => simp at h
  | cons x t =>
    simp only at h ⊢
    split at h
    · simp at h
    · rename_i h127
      rw [if_neg h127]
      split at h
      · rename_i hc
        rw [if_pos hc]
        refine ⟨hc.2.2, ?_⟩
        have hm := hc.2.2
        rw [may_such] at hm
        simp only [Bool.and_eq_true, decide_eq_true_eq, rdBody_kind] at hm
        have hb := body_inv (s := (t, false)) (t := []) hm.1.1 (Prod.ext hc.2.1 hc.1)
        simp only [Prod.mk.injEq, and_true, List.append_nil] at hb
        rw [recB_put, rdBody_kind, ofInt_toNat, ← hb]
      · simp at h
theorem read_back {r : Rc} (h : mayR r = true) : readR (recB r) = (r, 0) := by
  have hm := h
  rw [may_such] at hm
  simp only [Bool.and_eq_true, decide_eq_true_eq] at hm
  have hkn := ofInt_nat r.kind (by omega)
  rw [recB_put, readR]
  rw [if_neg (by omega), hkn, rd_put hm.1.1 hm.1.2, ← hm.2]
  simp [h]
theorem no_more {r o : Rc} (hr : mayR r = true) (ho : mayR o = true) {u : List UInt8} (h : recB o = recB r ++ u) : u = [] := by
  rw [may_such] at hr ho
  simp only [Bool.and_eq_true, decide_eq_true_eq] at hr ho
  rw [recB_put, recB_put, List.cons_append] at h
  obtain ⟨h1, h2⟩ := List.cons.inj h
  have hk : o.kind = r.kind := by
    have a := ofInt_nat r.kind (by omega)
    have b := ofInt_nat o.kind (by omega)
    rw [h1] at b
    omega
  have e1 := rd_put ho.1.1 ho.1.2
  rw [hk, h2, rd_put_u hr.1.1 hr.1.2] at e1
  simp only [Prod.mk.injEq, and_true] at e1
  exact e1.2
theorem read_more {r : Rc} (hr : mayR r = true) (u : List UInt8) : (readR (recB r ++ u)).2 = 0 ↔ u = [] := by
  constructor
  · intro h
    obtain ⟨h1, h2⟩ := read_inv h
    exact no_more hr h1 h2
  · rintro rfl
    rw [List.append_nil, read_back hr]
theorem readR_err (b : List UInt8) : (readR b).2 = 0 ∨ (readR b).2 = 40 := by
  unfold readR
  cases b with
  | nil => simp
  | cons x t =>
    simp only
    split
    · simp
    · split <;> simp
theorem read_less {r : Rc} (hr : mayR r = true) {n : Nat} (hn : n < (recB r).length) : (readR ((recB r).take n)).2 = 40 := by
  rcases readR_err ((recB r).take n) with h | h
  · obtain ⟨h1, h2⟩ := read_inv h
    have := no_more h1 hr (u := (recB r).drop n) (by rw [h2, List.take_append_drop])
    have := congrArg List.length this
    simp at this
    omega
  · exact h
end Go.Proofs.Ytchaakjbedkndaa

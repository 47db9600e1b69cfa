/- Records: there and back, in plain words. -/
import Derived.Test.YtchaakjbedkndaaZN
set_option linter.all false
namespace Go.Proofs.Ytchaakjbedkndaa
open Go.Am

theorem ofInt_nat' (n : Int) (h : 0 ≤ n) : ((UInt8.ofInt n).toNat : Int) = n % 256 := by
  show ((UInt8.ofNat (n % 2 ^ 8).toNat).toNat : Int) = _
  rw [UInt8.toNat_ofNat']
  omega
theorem ofInt_nat (n : Int) (h : 0 ≤ n ∧ n ≤ 255) : ((UInt8.ofInt n).toNat : Int) = n := by
  rw [ofInt_nat' n h.1]
  omega
theorem ofInt_toNat (x : UInt8) : UInt8.ofInt (x.toNat : Int) = x := by
  have hx := x.toNat_lt
  apply UInt8.toNat_inj.1
  have := ofInt_nat (x.toNat : Int) (by omega)
  omega
theorem rd1_cons (x : UInt8) (t : List UInt8) (b : Bool) : rd1 (x :: t, b) = ((x.toNat : Int), (t, b)) := rfl
theorem rd1_put {n : Int} (h : 0 ≤ n ∧ n ≤ 255) (t : List UInt8) (b : Bool) : rd1 (UInt8.ofInt n :: t, b) = (n, (t, b)) := by rw [rd1_cons, ofInt_nat n h]
theorem rd3_put {n : Int} (h : 0 ≤ n ∧ n < 16777216) (t : List UInt8) (b : Bool) : rd3 (le3 n ++ t, b) = (n, (t, b)) := by
  simp only [le3, List.cons_append, List.nil_append, rd3, rd1_cons]
  rw [ofInt_nat' n h.1, ofInt_nat' (n / 256) (by omega), ofInt_nat' (n / 65536) (by omega)]
  congr 1
  omega
theorem rdNm_put {n : Nm} (h : named n = true) (t : List UInt8) (b : Bool) : rdNm (nmB n ++ t, b) = (n, (t, b)) := by
  rw [named_eq] at h
  simp only [Bool.and_eq_true, within_iff] at h
  simp only [nmB, List.append_assoc, rdNm]
  rw [rd3_put (by omega), rd3_put (by omega), rd3_put (by omega)]
theorem rdW1_put {w : Wr} (h : 0 ≤ w.block ∧ w.block ≤ 255) (t : List UInt8) (b : Bool) : rdW1 (wb w ++ t, b) = (w, (t, b)) := by
  simp only [wb, List.cons_append, List.nil_append, rdW1, rd1_put h, rdB, rdn, rd1_cons, ofInt_toNat]
theorem rdWs_put (ws : List Wr) (h : ∀ w ∈ ws, 0 ≤ w.block ∧ w.block ≤ 255) (t : List UInt8) : rdWs ws.length ((ws.map wb).flatten ++ t, false) = (ws, (t, false)) := by
  induction ws with
  | nil => rfl
  | cons w ws ih =>
    simp only [List.map_cons, List.flatten_cons, List.append_assoc, List.length_cons, rdWs]
    rw [if_neg (by simp), rdW1_put (h w List.mem_cons_self), ih fun x hx => h x (List.mem_cons_of_mem _ hx)]
theorem rdWr_put {ws : List Wr} (h : ∀ w ∈ ws, 0 ≤ w.block ∧ w.block ≤ 255) (hl : ws.length ≤ 255) (t : List UInt8) : rdWr (wsB ws ++ t, false) = (ws, (t, false)) := by
  rw [rdWr, wsB, List.cons_append, rd1_put (by omega), Int.toNat_natCast, rdWs_put ws h]
theorem asc_all : ∀ {l : List Wr} {last : Int}, asc last l = true → ∀ w ∈ l, last < w.block ∧ w.block < 32
  | [], _, _ => by simp
  | w :: l, last, h => by
    rw [asc] at h
    simp only [Bool.and_eq_true, decide_eq_true_eq] at h
    intro x hx
    rcases List.mem_cons.1 hx with rfl | hx
    · exact h.1
    · have := asc_all h.2 x hx
      omega
theorem written_all {l : List Wr} (h : written l = true) : ∀ w ∈ l, 0 ≤ w.block ∧ w.block ≤ 255 := by
  unfold written at h
  simp only [Bool.and_eq_true, decide_eq_true_eq] at h
  intro w hw
  have := asc_all h.1 w hw
  omega
/-- What a record's bytes read as, if its form says yes. -/
theorem rd_put {r : Rc} (hk : 1 ≤ r.kind ∧ r.kind ≤ 7) (hs : suchR r = true) : rdBody r.kind (putR r, false) = (fieldsR r, ([], false)) := by
  unfold suchR at hs
  obtain h | h | h | h | h | h | h : r.kind = 1 ∨ r.kind = 2 ∨ r.kind = 3 ∨ r.kind = 4 ∨ r.kind = 5 ∨ r.kind = 6 ∨ r.kind = 7 := by omega
  · simp [h] at hs
    have := rdWr_put (written_all hs.2) (by have := written_len hs.2; omega) []
    simp [rdBody, putR, tailR, fieldsR, h, rdNm_put hs.1, List.append_nil] at this ⊢
    simp [this]
  · simp [h] at hs
    have hg := hs.2.2
    unfold given at hg
    simp only [decide_eq_true_eq] at hg
    simp [rdBody, putR, tailR, fieldsR, h, rdNm_put hs.1, rdWr_put (written_all hs.2.1) (by have := written_len hs.2.1; omega), rd1_put (n := r.give) (by omega), rd1_put (n := r.take) (by omega)]
  · simp [h] at hs
    cases hy : r.yes <;> simp [rdBody, putR, tailR, fieldsR, h, rdNm_put hs, rdF, rd1_cons, hy]
  · simp [h] at hs
    have h1 := hs.2.1
    have h2 := hs.2.2
    unfold shardsOk at h1
    unfold changed at h2
    simp only [decide_eq_true_eq] at h1 h2
    simp [-UInt8.ofInt_add, rdBody, putR, tailR, fieldsR, h, rdNm_put hs.1, rd1_put (n := r.shards) (by omega), rd1_put (n := r.stripe + 1) (by omega), rd1_put (n := r.to) (by omega)]
  · simp [h] at hs
    have := rdNm_put hs [] false
    simp [rdBody, putR, tailR, fieldsR, h] at this ⊢
    simp [this]
  · simp [h] at hs
    have := rd3_put (n := r.n) (by omega) [] false
    simp [rdBody, putR, fieldsR, h] at this ⊢
    simp [this]
  · simp [h] at hs
    have := rd3_put (n := r.n) (by omega) [] false
    simp [rdBody, putR, fieldsR, h] at this ⊢
    simp [this]
theorem may_such (r : Rc) : mayR r = (decide (1 ≤ r.kind ∧ r.kind ≤ 7) && suchR r && decide (r = fieldsR r)) := by
  have hw0 : written [] = true := by unfold written; rfl
  have hg0 : given 0 0 = true := by unfold given; decide
  unfold mayR suchR
  by_cases hk : 1 ≤ r.kind ∧ r.kind ≤ 7
  · by_cases hf : r = fieldsR r
    · simp only [hk, eq_true hf, decide_true, Bool.true_and, Bool.and_true, and_self]
      obtain h | h | h | h | h | h | h : r.kind = 1 ∨ r.kind = 2 ∨ r.kind = 3 ∨ r.kind = 4 ∨ r.kind = 5 ∨ r.kind = 6 ∨ r.kind = 7 := by omega
      all_goals
        obtain ⟨k, nm, yes, ws, give, take, shards, stripe, to, n⟩ := r
        simp only at h
        subst h
        simp [fieldsR] at hf
        try simp [hf]
      all_goals simp [hw0, hg0, Bool.and_assoc]
    · simp [hf]
  · simp [hk]
end Go.Proofs.Ytchaakjbedkndaa

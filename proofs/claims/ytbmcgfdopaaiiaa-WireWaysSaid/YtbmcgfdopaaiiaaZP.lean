/- Epochs: what is old changes nothing. -/
import Derived.Test.YtbmcgfdopaaiiaaZO
set_option linter.all false
namespace Go.Proofs.Ytbmcgfdopaaiiaa
open Go.Am

theorem hear_old {k : Kn} {m : Ms} (hk : mayK k = true) (hm : mayM m = true) (ht : m.to = k.node) (h : m.inc < getK k m.fr ∨ m.your ≠ 0 ∧ m.your ≠ k.inc) : hearR k m = (k, 0, 0) := by
  have hN : hearN k m = 0 := by unfold hearN; rw [if_pos h]
  rw [hearR, if_pos ⟨hk, hm, ht⟩, hN]
  unfold hearK
  rw [hN, if_neg (by decide)]
theorem hear_same {k : Kn} {m : Ms} (hk : mayK k = true) (hm : mayM m = true) (ht : m.to = k.node) (h : ¬ (m.inc < getK k m.fr ∨ m.your ≠ 0 ∧ m.your ≠ k.inc)) (hs : m.inc = getK k m.fr) : hearR k m = (k, 1, 0) := by
  have hN : hearN k m = 1 := by unfold hearN; rw [if_neg h, if_pos hs]
  rw [hearR, if_pos ⟨hk, hm, ht⟩, hN]
  unfold hearK
  rw [hN, if_neg (by decide)]
theorem hear_new {k : Kn} {m : Ms} (hk : mayK k = true) (hm : mayM m = true) (ht : m.to = k.node) (h : ¬ (m.inc < getK k m.fr ∨ m.your ≠ 0 ∧ m.your ≠ k.inc)) (hs : ¬ m.inc = getK k m.fr) : hearR k m = (setK k m.fr m.inc, if getK k m.fr = 0 then 2 else 3, 0) := by
  have hN : hearN k m = if getK k m.fr = 0 then 2 else 3 := by unfold hearN; rw [if_neg h, if_neg hs]
  rw [hearR, if_pos ⟨hk, hm, ht⟩, hN]
  unfold hearK
  rw [hN, if_pos (by split <;> decide)]
theorem lold_a (k : Kn) (m : Ms) (hg : ¬ 40 < m.ws.length) (hk : mayK k = true) (hm : mayM m = true) (ht : (m.to = k.node) = True) (hl : m.ws.length ≤ 1048576) (ho : m.inc < getK k m.fr ∨ m.your ≠ 0 ∧ m.your ≠ k.inc) (hR : hearR k m = (k, 0, 0)) {was : Int} (hwas : getK k m.fr = was) (hc : m.fr = 0 ∨ m.fr = 1 ∨ m.fr = 2 ∨ m.fr = 3 ∨ m.fr = 4) (st : St) : ASpec Try.prog 4 [.agg (knC k), .agg (msC m)] st fun v st' => v = .bool true ∧ st' = st := by
  refine pure_of (R := fun v => v = _) C10s F4 rfl ?_
  rw [hwas] at ho
  simp (disch := first | omega | (simp only [List.length_take, List.length_drop, List.length_append, List.length_cons, List.length_nil, List.length_map]; omega)) [IntWalk.i64_in, IntWalk.i64_quo, c4, hg, hk, hm, hl, ht, hR]
  clear hR hm hk ht
  rcases hc with hc | hc | hc | hc | hc
  all_goals
    have hw := hwas
    simp [getK, hc] at hw
    refine region_static rfl (by decide +kernel) ?_
    simp (disch := first | omega | (simp only [List.length_take, List.length_drop, List.length_append, List.length_cons, List.length_nil, List.length_map]; omega)) [IntWalk.i64_in, IntWalk.i64_quo, hc, hw]
    repeat' first
      | (refine region_static rfl (by decide +kernel) ?_; try simp (disch := first | omega | (simp only [List.length_take, List.length_drop, List.length_append, List.length_cons, List.length_nil, List.length_map]; omega)) [IntWalk.i64_in, IntWalk.i64_quo, hc, hw])
      | (refine And.intro (by omega) ?_; try simp (disch := first | omega | (simp only [List.length_take, List.length_drop, List.length_append, List.length_cons, List.length_nil, List.length_map]; omega)) [IntWalk.i64_in, IntWalk.i64_quo, hc, hw])
      | (refine guardK_ndec (fun h => ?_) (fun h => ?_) <;> (try simp (disch := first | omega | (simp only [List.length_take, List.length_drop, List.length_append, List.length_cons, List.length_nil, List.length_map]; omega)) [h, IntWalk.i64_in, IntWalk.i64_quo, hc, hw]))
      | (refine guardK_dec (fun h => ?_) (fun h => ?_) <;> (try simp (disch := first | omega | (simp only [List.length_take, List.length_drop, List.length_append, List.length_cons, List.length_nil, List.length_map]; omega)) [h, IntWalk.i64_in, IntWalk.i64_quo, hc, hw]))
      | (refine guardK_nbeq (fun h => ?_) (fun h => ?_) <;> (try simp (disch := first | omega | (simp only [List.length_take, List.length_drop, List.length_append, List.length_cons, List.length_nil, List.length_map]; omega)) [h, IntWalk.i64_in, IntWalk.i64_quo, hc, hw]))
      | (refine guardK_beq (fun h => ?_) (fun h => ?_) <;> (try simp (disch := first | omega | (simp only [List.length_take, List.length_drop, List.length_append, List.length_cons, List.length_nil, List.length_map]; omega)) [h, IntWalk.i64_in, IntWalk.i64_quo, hc, hw]))
      | (refine guardK_bne (fun h => ?_) (fun h => ?_) <;> (try simp (disch := first | omega | (simp only [List.length_take, List.length_drop, List.length_append, List.length_cons, List.length_nil, List.length_map]; omega)) [h, IntWalk.i64_in, IntWalk.i64_quo, hc, hw]))
      | (refine guardK_not (fun h => ?_) (fun h => ?_) <;> (try simp (disch := first | omega | (simp only [List.length_take, List.length_drop, List.length_append, List.length_cons, List.length_nil, List.length_map]; omega)) [h, IntWalk.i64_in, IntWalk.i64_quo, hc, hw]))
      | (refine guardK_split (fun h => ?_) (fun h => ?_) <;> (try simp (disch := first | omega | (simp only [List.length_take, List.length_drop, List.length_append, List.length_cons, List.length_nil, List.length_map]; omega)) [h, IntWalk.i64_in, IntWalk.i64_quo, hc, hw]))
      | (refine condK_ndec (fun h => ?_) (fun h => ?_) <;> (try simp (disch := first | omega | (simp only [List.length_take, List.length_drop, List.length_append, List.length_cons, List.length_nil, List.length_map]; omega)) [h, IntWalk.i64_in, IntWalk.i64_quo, hc, hw]))
      | (refine condK_dec (fun h => ?_) (fun h => ?_) <;> (try simp (disch := first | omega | (simp only [List.length_take, List.length_drop, List.length_append, List.length_cons, List.length_nil, List.length_map]; omega)) [h, IntWalk.i64_in, IntWalk.i64_quo, hc, hw]))
      | (refine condK_nbeq (fun h => ?_) (fun h => ?_) <;> (try simp (disch := first | omega | (simp only [List.length_take, List.length_drop, List.length_append, List.length_cons, List.length_nil, List.length_map]; omega)) [h, IntWalk.i64_in, IntWalk.i64_quo, hc, hw]))
      | (refine condK_beq (fun h => ?_) (fun h => ?_) <;> (try simp (disch := first | omega | (simp only [List.length_take, List.length_drop, List.length_append, List.length_cons, List.length_nil, List.length_map]; omega)) [h, IntWalk.i64_in, IntWalk.i64_quo, hc, hw]))
      | (refine condK_bne (fun h => ?_) (fun h => ?_) <;> (try simp (disch := first | omega | (simp only [List.length_take, List.length_drop, List.length_append, List.length_cons, List.length_nil, List.length_map]; omega)) [h, IntWalk.i64_in, IntWalk.i64_quo, hc, hw]))
      | (refine condK_not (fun h => ?_) (fun h => ?_) <;> (try simp (disch := first | omega | (simp only [List.length_take, List.length_drop, List.length_append, List.length_cons, List.length_nil, List.length_map]; omega)) [h, IntWalk.i64_in, IntWalk.i64_quo, hc, hw]))
      | (refine condK_split (fun h => ?_) (fun h => ?_) <;> (try simp (disch := first | omega | (simp only [List.length_take, List.length_drop, List.length_append, List.length_cons, List.length_nil, List.length_map]; omega)) [h, IntWalk.i64_in, IntWalk.i64_quo, hc, hw]))
    all_goals omega
theorem lold_b (k : Kn) (m : Ms) (hg : ¬ 40 < m.ws.length) (hk : mayK k = true) (hm : mayM m = true) (ht : (m.to = k.node) = True) (hl : m.ws.length ≤ 1048576) (ho : ¬ (m.inc < getK k m.fr ∨ m.your ≠ 0 ∧ m.your ≠ k.inc)) (hs : m.inc = getK k m.fr) (hR : hearR k m = (k, 1, 0)) {was : Int} (hwas : getK k m.fr = was) (hc : m.fr = 0 ∨ m.fr = 1 ∨ m.fr = 2 ∨ m.fr = 3 ∨ m.fr = 4) (st : St) : ASpec Try.prog 4 [.agg (knC k), .agg (msC m)] st fun v st' => v = .bool true ∧ st' = st := by
  refine pure_of (R := fun v => v = _) C10s F4 rfl ?_
  rw [hwas] at ho hs
  simp (disch := first | omega | (simp only [List.length_take, List.length_drop, List.length_append, List.length_cons, List.length_nil, List.length_map]; omega)) [IntWalk.i64_in, IntWalk.i64_quo, c4, hg, hk, hm, hl, ht, hR]
  clear hR hm hk ht
  rcases hc with hc | hc | hc | hc | hc
  all_goals
    have hw := hwas
    simp [getK, hc] at hw
    refine region_static rfl (by decide +kernel) ?_
    simp (disch := first | omega | (simp only [List.length_take, List.length_drop, List.length_append, List.length_cons, List.length_nil, List.length_map]; omega)) [IntWalk.i64_in, IntWalk.i64_quo, hc, hw]
    repeat' first
      | (refine region_static rfl (by decide +kernel) ?_; try simp (disch := first | omega | (simp only [List.length_take, List.length_drop, List.length_append, List.length_cons, List.length_nil, List.length_map]; omega)) [IntWalk.i64_in, IntWalk.i64_quo, hc, hw])
      | (refine And.intro (by omega) ?_; try simp (disch := first | omega | (simp only [List.length_take, List.length_drop, List.length_append, List.length_cons, List.length_nil, List.length_map]; omega)) [IntWalk.i64_in, IntWalk.i64_quo, hc, hw])
      | (refine guardK_ndec (fun h => ?_) (fun h => ?_) <;> (try simp (disch := first | omega | (simp only [List.length_take, List.length_drop, List.length_append, List.length_cons, List.length_nil, List.length_map]; omega)) [h, IntWalk.i64_in, IntWalk.i64_quo, hc, hw]))
      | (refine guardK_dec (fun h => ?_) (fun h => ?_) <;> (try simp (disch := first | omega | (simp only [List.length_take, List.length_drop, List.length_append, List.length_cons, List.length_nil, List.length_map]; omega)) [h, IntWalk.i64_in, IntWalk.i64_quo, hc, hw]))
      | (refine guardK_nbeq (fun h => ?_) (fun h => ?_) <;> (try simp (disch := first | omega | (simp only [List.length_take, List.length_drop, List.length_append, List.length_cons, List.length_nil, List.length_map]; omega)) [h, IntWalk.i64_in, IntWalk.i64_quo, hc, hw]))
      | (refine guardK_beq (fun h => ?_) (fun h => ?_) <;> (try simp (disch := first | omega | (simp only [List.length_take, List.length_drop, List.length_append, List.length_cons, List.length_nil, List.length_map]; omega)) [h, IntWalk.i64_in, IntWalk.i64_quo, hc, hw]))
      | (refine guardK_bne (fun h => ?_) (fun h => ?_) <;> (try simp (disch := first | omega | (simp only [List.length_take, List.length_drop, List.length_append, List.length_cons, List.length_nil, List.length_map]; omega)) [h, IntWalk.i64_in, IntWalk.i64_quo, hc, hw]))
      | (refine guardK_not (fun h => ?_) (fun h => ?_) <;> (try simp (disch := first | omega | (simp only [List.length_take, List.length_drop, List.length_append, List.length_cons, List.length_nil, List.length_map]; omega)) [h, IntWalk.i64_in, IntWalk.i64_quo, hc, hw]))
      | (refine guardK_split (fun h => ?_) (fun h => ?_) <;> (try simp (disch := first | omega | (simp only [List.length_take, List.length_drop, List.length_append, List.length_cons, List.length_nil, List.length_map]; omega)) [h, IntWalk.i64_in, IntWalk.i64_quo, hc, hw]))
      | (refine condK_ndec (fun h => ?_) (fun h => ?_) <;> (try simp (disch := first | omega | (simp only [List.length_take, List.length_drop, List.length_append, List.length_cons, List.length_nil, List.length_map]; omega)) [h, IntWalk.i64_in, IntWalk.i64_quo, hc, hw]))
      | (refine condK_dec (fun h => ?_) (fun h => ?_) <;> (try simp (disch := first | omega | (simp only [List.length_take, List.length_drop, List.length_append, List.length_cons, List.length_nil, List.length_map]; omega)) [h, IntWalk.i64_in, IntWalk.i64_quo, hc, hw]))
      | (refine condK_nbeq (fun h => ?_) (fun h => ?_) <;> (try simp (disch := first | omega | (simp only [List.length_take, List.length_drop, List.length_append, List.length_cons, List.length_nil, List.length_map]; omega)) [h, IntWalk.i64_in, IntWalk.i64_quo, hc, hw]))
      | (refine condK_beq (fun h => ?_) (fun h => ?_) <;> (try simp (disch := first | omega | (simp only [List.length_take, List.length_drop, List.length_append, List.length_cons, List.length_nil, List.length_map]; omega)) [h, IntWalk.i64_in, IntWalk.i64_quo, hc, hw]))
      | (refine condK_bne (fun h => ?_) (fun h => ?_) <;> (try simp (disch := first | omega | (simp only [List.length_take, List.length_drop, List.length_append, List.length_cons, List.length_nil, List.length_map]; omega)) [h, IntWalk.i64_in, IntWalk.i64_quo, hc, hw]))
      | (refine condK_not (fun h => ?_) (fun h => ?_) <;> (try simp (disch := first | omega | (simp only [List.length_take, List.length_drop, List.length_append, List.length_cons, List.length_nil, List.length_map]; omega)) [h, IntWalk.i64_in, IntWalk.i64_quo, hc, hw]))
      | (refine condK_split (fun h => ?_) (fun h => ?_) <;> (try simp (disch := first | omega | (simp only [List.length_take, List.length_drop, List.length_append, List.length_cons, List.length_nil, List.length_map]; omega)) [h, IntWalk.i64_in, IntWalk.i64_quo, hc, hw]))
    all_goals omega
theorem lold_c (k : Kn) (m : Ms) (hg : ¬ 40 < m.ws.length) (hk : mayK k = true) (hm : mayM m = true) (ht : (m.to = k.node) = True) (hl : m.ws.length ≤ 1048576) (ho : ¬ (m.inc < getK k m.fr ∨ m.your ≠ 0 ∧ m.your ≠ k.inc)) {N : Int} (hN0 : ¬ N = 0) (hR : hearR k m = (setK k m.fr m.inc, N, 0)) {was : Int} (hwas : getK k m.fr = was) (hc : m.fr = 0 ∨ m.fr = 1 ∨ m.fr = 2 ∨ m.fr = 3 ∨ m.fr = 4) (st : St) : ASpec Try.prog 4 [.agg (knC k), .agg (msC m)] st fun v st' => v = .bool true ∧ st' = st := by
  refine pure_of (R := fun v => v = _) C10s F4 rfl ?_
  rw [hwas] at ho
  simp (disch := first | omega | (simp only [List.length_take, List.length_drop, List.length_append, List.length_cons, List.length_nil, List.length_map]; omega)) [IntWalk.i64_in, IntWalk.i64_quo, c4, hg, hk, hm, hl, ht, hR]
  clear hR hm hk ht
  rcases hc with hc | hc | hc | hc | hc
  all_goals
    have hw := hwas
    simp [getK, hc] at hw
    refine region_static rfl (by decide +kernel) ?_
    simp (disch := first | omega | (simp only [List.length_take, List.length_drop, List.length_append, List.length_cons, List.length_nil, List.length_map]; omega)) [IntWalk.i64_in, IntWalk.i64_quo, hc, hw, hN0, setK]
    repeat' first
      | (refine region_static rfl (by decide +kernel) ?_; try simp (disch := first | omega | (simp only [List.length_take, List.length_drop, List.length_append, List.length_cons, List.length_nil, List.length_map]; omega)) [IntWalk.i64_in, IntWalk.i64_quo, hc, hw, hN0, setK])
      | (refine And.intro (by omega) ?_; try simp (disch := first | omega | (simp only [List.length_take, List.length_drop, List.length_append, List.length_cons, List.length_nil, List.length_map]; omega)) [IntWalk.i64_in, IntWalk.i64_quo, hc, hw, hN0, setK])
      | (refine guardK_ndec (fun h => ?_) (fun h => ?_) <;> (try simp (disch := first | omega | (simp only [List.length_take, List.length_drop, List.length_append, List.length_cons, List.length_nil, List.length_map]; omega)) [h, IntWalk.i64_in, IntWalk.i64_quo, hc, hw, hN0, setK]))
      | (refine guardK_dec (fun h => ?_) (fun h => ?_) <;> (try simp (disch := first | omega | (simp only [List.length_take, List.length_drop, List.length_append, List.length_cons, List.length_nil, List.length_map]; omega)) [h, IntWalk.i64_in, IntWalk.i64_quo, hc, hw, hN0, setK]))
      | (refine guardK_nbeq (fun h => ?_) (fun h => ?_) <;> (try simp (disch := first | omega | (simp only [List.length_take, List.length_drop, List.length_append, List.length_cons, List.length_nil, List.length_map]; omega)) [h, IntWalk.i64_in, IntWalk.i64_quo, hc, hw, hN0, setK]))
      | (refine guardK_beq (fun h => ?_) (fun h => ?_) <;> (try simp (disch := first | omega | (simp only [List.length_take, List.length_drop, List.length_append, List.length_cons, List.length_nil, List.length_map]; omega)) [h, IntWalk.i64_in, IntWalk.i64_quo, hc, hw, hN0, setK]))
      | (refine guardK_bne (fun h => ?_) (fun h => ?_) <;> (try simp (disch := first | omega | (simp only [List.length_take, List.length_drop, List.length_append, List.length_cons, List.length_nil, List.length_map]; omega)) [h, IntWalk.i64_in, IntWalk.i64_quo, hc, hw, hN0, setK]))
      | (refine guardK_not (fun h => ?_) (fun h => ?_) <;> (try simp (disch := first | omega | (simp only [List.length_take, List.length_drop, List.length_append, List.length_cons, List.length_nil, List.length_map]; omega)) [h, IntWalk.i64_in, IntWalk.i64_quo, hc, hw, hN0, setK]))
      | (refine guardK_split (fun h => ?_) (fun h => ?_) <;> (try simp (disch := first | omega | (simp only [List.length_take, List.length_drop, List.length_append, List.length_cons, List.length_nil, List.length_map]; omega)) [h, IntWalk.i64_in, IntWalk.i64_quo, hc, hw, hN0, setK]))
      | (refine condK_ndec (fun h => ?_) (fun h => ?_) <;> (try simp (disch := first | omega | (simp only [List.length_take, List.length_drop, List.length_append, List.length_cons, List.length_nil, List.length_map]; omega)) [h, IntWalk.i64_in, IntWalk.i64_quo, hc, hw, hN0, setK]))
      | (refine condK_dec (fun h => ?_) (fun h => ?_) <;> (try simp (disch := first | omega | (simp only [List.length_take, List.length_drop, List.length_append, List.length_cons, List.length_nil, List.length_map]; omega)) [h, IntWalk.i64_in, IntWalk.i64_quo, hc, hw, hN0, setK]))
      | (refine condK_nbeq (fun h => ?_) (fun h => ?_) <;> (try simp (disch := first | omega | (simp only [List.length_take, List.length_drop, List.length_append, List.length_cons, List.length_nil, List.length_map]; omega)) [h, IntWalk.i64_in, IntWalk.i64_quo, hc, hw, hN0, setK]))
      | (refine condK_beq (fun h => ?_) (fun h => ?_) <;> (try simp (disch := first | omega | (simp only [List.length_take, List.length_drop, List.length_append, List.length_cons, List.length_nil, List.length_map]; omega)) [h, IntWalk.i64_in, IntWalk.i64_quo, hc, hw, hN0, setK]))
      | (refine condK_bne (fun h => ?_) (fun h => ?_) <;> (try simp (disch := first | omega | (simp only [List.length_take, List.length_drop, List.length_append, List.length_cons, List.length_nil, List.length_map]; omega)) [h, IntWalk.i64_in, IntWalk.i64_quo, hc, hw, hN0, setK]))
      | (refine condK_not (fun h => ?_) (fun h => ?_) <;> (try simp (disch := first | omega | (simp only [List.length_take, List.length_drop, List.length_append, List.length_cons, List.length_nil, List.length_map]; omega)) [h, IntWalk.i64_in, IntWalk.i64_quo, hc, hw, hN0, setK]))
      | (refine condK_split (fun h => ?_) (fun h => ?_) <;> (try simp (disch := first | omega | (simp only [List.length_take, List.length_drop, List.length_append, List.length_cons, List.length_nil, List.length_map]; omega)) [h, IntWalk.i64_in, IntWalk.i64_quo, hc, hw, hN0, setK]))
    all_goals omega
theorem lold_spec (k : Kn) (m : Ms) (st : St) : ASpec Try.prog 4 [.agg (knC k), .agg (msC m)] st fun v st' => v = .bool true ∧ st' = st := by
  by_cases hg : 40 < m.ws.length
  · refine pure_of (R := fun v => v = _) C10s F4 rfl ?_
    simp (disch := first | omega | (simp only [List.length_take, List.length_drop, List.length_append, List.length_cons, List.length_nil, List.length_map]; omega)) [IntWalk.i64_in, IntWalk.i64_quo, c4, hg]
  have hl : m.ws.length ≤ 1048576 := by omega
  cases hk : mayK k
  · refine pure_of (R := fun v => v = _) C10s F4 rfl ?_
    simp (disch := first | omega | (simp only [List.length_take, List.length_drop, List.length_append, List.length_cons, List.length_nil, List.length_map]; omega)) [IntWalk.i64_in, IntWalk.i64_quo, c4, hg, hk]
  cases hm : mayM m
  · refine pure_of (R := fun v => v = _) C10s F4 rfl ?_
    simp (disch := first | omega | (simp only [List.length_take, List.length_drop, List.length_append, List.length_cons, List.length_nil, List.length_map]; omega)) [IntWalk.i64_in, IntWalk.i64_quo, c4, hg, hk, hm, hl]
  rcases Classical.propComplete (m.to = k.node) with ht | ht
  case inr =>
    refine pure_of (R := fun v => v = _) C10s F4 rfl ?_
    simp (disch := first | omega | (simp only [List.length_take, List.length_drop, List.length_append, List.length_cons, List.length_nil, List.length_map]; omega)) [IntWalk.i64_in, IntWalk.i64_quo, c4, hg, hk, hm, hl, ht]
  have hd := head_facts (mayM_head hm)
  have ht' : m.to = k.node := by rw [ht]; trivial
  have hc : m.fr = 0 ∨ m.fr = 1 ∨ m.fr = 2 ∨ m.fr = 3 ∨ m.fr = 4 := by omega
  by_cases ho : m.inc < getK k m.fr ∨ m.your ≠ 0 ∧ m.your ≠ k.inc
  · exact lold_a k m hg hk hm ht hl ho (hear_old hk hm ht' ho) rfl hc st
  by_cases hs : m.inc = getK k m.fr
  · exact lold_b k m hg hk hm ht hl ho hs (hear_same hk hm ht' ho hs) rfl hc st
  · exact lold_c k m hg hk hm ht hl ho (by split <;> decide) (hear_new hk hm ht' ho hs) rfl hc st
end Go.Proofs.Ytbmcgfdopaaiiaa

/- Records: names are in an order. -/
import Derived.Test.YtchaakjbedkndaaZS
set_option linter.all false
namespace Go.Proofs.Ytchaakjbedkndaa
open Go.Am

theorem lessN_iff (a b : Nm) : lessN a b = true ↔ (a.stamp < b.stamp ∨ a.stamp = b.stamp ∧ (a.inc < b.inc ∨ a.inc = b.inc ∧ a.tr < b.tr)) := by
  unfold lessN
  exact decide_eq_true_iff
theorem lessN_asymm {a b : Nm} (h : lessN a b = true) : lessN b a = false := by
  rw [← Bool.not_eq_true, lessN_iff]
  rw [lessN_iff] at h
  omega
theorem lessN_self (a : Nm) : lessN a a = false := by
  rw [← Bool.not_eq_true, lessN_iff]
  omega
theorem lessN_trans {a b c : Nm} (h1 : lessN a b = true) (h2 : lessN b c = true) : lessN a c = true := by
  rw [lessN_iff] at *
  omega
theorem lessN_eq {a b : Nm} (h1 : lessN a b = false) (h2 : lessN b a = false) : a = b := by
  rw [← Bool.not_eq_true, lessN_iff] at *
  obtain ⟨a1, a2, a3⟩ := a
  obtain ⟨b1, b2, b3⟩ := b
  simp only [Nm.mk.injEq] at *
  omega
theorem lnames_spec (a b c : Nm) (st : St) : ASpec Try.prog 6 [.agg (nmC a), .agg (nmC b), .agg (nmC c)] st fun v st' => v = .bool true ∧ st' = st := by
  refine pure_of (R := fun v => v = _) C9s F6 rfl ?_
  have haa := lessN_self a
  cases hab : lessN a b with
  | true =>
    have hba := lessN_asymm hab
    cases hbc : lessN b c with
    | true =>
      have hac := lessN_trans hab hbc
      simp (disch := first | omega | (simp only [List.length_take, List.length_drop, List.length_append, List.length_cons, List.length_nil, List.length_map]; omega)) [IntWalk.i64_in, IntWalk.i64_quo, c6, haa, hab, hba, hbc, hac]
      repeat' first
        | (refine region_static rfl (by decide +kernel) ?_; try simp (disch := first | omega | (simp only [List.length_take, List.length_drop, List.length_append, List.length_cons, List.length_nil, List.length_map]; omega)) [IntWalk.i64_in, IntWalk.i64_quo, haa, hab, hba, hbc, hac])
        | (refine And.intro (by omega) ?_; try simp (disch := first | omega | (simp only [List.length_take, List.length_drop, List.length_append, List.length_cons, List.length_nil, List.length_map]; omega)) [IntWalk.i64_in, IntWalk.i64_quo, haa, hab, hba, hbc, hac])
        | (refine guardK_ndec (fun h => ?_) (fun h => ?_) <;> (try simp (disch := first | omega | (simp only [List.length_take, List.length_drop, List.length_append, List.length_cons, List.length_nil, List.length_map]; omega)) [h, IntWalk.i64_in, IntWalk.i64_quo, haa, hab, hba, hbc, hac]))
        | (refine guardK_dec (fun h => ?_) (fun h => ?_) <;> (try simp (disch := first | omega | (simp only [List.length_take, List.length_drop, List.length_append, List.length_cons, List.length_nil, List.length_map]; omega)) [h, IntWalk.i64_in, IntWalk.i64_quo, haa, hab, hba, hbc, hac]))
        | (refine guardK_nbeq (fun h => ?_) (fun h => ?_) <;> (try simp (disch := first | omega | (simp only [List.length_take, List.length_drop, List.length_append, List.length_cons, List.length_nil, List.length_map]; omega)) [h, IntWalk.i64_in, IntWalk.i64_quo, haa, hab, hba, hbc, hac]))
        | (refine guardK_beq (fun h => ?_) (fun h => ?_) <;> (try simp (disch := first | omega | (simp only [List.length_take, List.length_drop, List.length_append, List.length_cons, List.length_nil, List.length_map]; omega)) [h, IntWalk.i64_in, IntWalk.i64_quo, haa, hab, hba, hbc, hac]))
        | (refine guardK_bne (fun h => ?_) (fun h => ?_) <;> (try simp (disch := first | omega | (simp only [List.length_take, List.length_drop, List.length_append, List.length_cons, List.length_nil, List.length_map]; omega)) [h, IntWalk.i64_in, IntWalk.i64_quo, haa, hab, hba, hbc, hac]))
        | (refine guardK_not (fun h => ?_) (fun h => ?_) <;> (try simp (disch := first | omega | (simp only [List.length_take, List.length_drop, List.length_append, List.length_cons, List.length_nil, List.length_map]; omega)) [h, IntWalk.i64_in, IntWalk.i64_quo, haa, hab, hba, hbc, hac]))
        | (refine guardK_split (fun h => ?_) (fun h => ?_) <;> (try simp (disch := first | omega | (simp only [List.length_take, List.length_drop, List.length_append, List.length_cons, List.length_nil, List.length_map]; omega)) [h, IntWalk.i64_in, IntWalk.i64_quo, haa, hab, hba, hbc, hac]))
        | (refine condK_ndec (fun h => ?_) (fun h => ?_) <;> (try simp (disch := first | omega | (simp only [List.length_take, List.length_drop, List.length_append, List.length_cons, List.length_nil, List.length_map]; omega)) [h, IntWalk.i64_in, IntWalk.i64_quo, haa, hab, hba, hbc, hac]))
        | (refine condK_dec (fun h => ?_) (fun h => ?_) <;> (try simp (disch := first | omega | (simp only [List.length_take, List.length_drop, List.length_append, List.length_cons, List.length_nil, List.length_map]; omega)) [h, IntWalk.i64_in, IntWalk.i64_quo, haa, hab, hba, hbc, hac]))
        | (refine condK_nbeq (fun h => ?_) (fun h => ?_) <;> (try simp (disch := first | omega | (simp only [List.length_take, List.length_drop, List.length_append, List.length_cons, List.length_nil, List.length_map]; omega)) [h, IntWalk.i64_in, IntWalk.i64_quo, haa, hab, hba, hbc, hac]))
        | (refine condK_beq (fun h => ?_) (fun h => ?_) <;> (try simp (disch := first | omega | (simp only [List.length_take, List.length_drop, List.length_append, List.length_cons, List.length_nil, List.length_map]; omega)) [h, IntWalk.i64_in, IntWalk.i64_quo, haa, hab, hba, hbc, hac]))
        | (refine condK_bne (fun h => ?_) (fun h => ?_) <;> (try simp (disch := first | omega | (simp only [List.length_take, List.length_drop, List.length_append, List.length_cons, List.length_nil, List.length_map]; omega)) [h, IntWalk.i64_in, IntWalk.i64_quo, haa, hab, hba, hbc, hac]))
        | (refine condK_not (fun h => ?_) (fun h => ?_) <;> (try simp (disch := first | omega | (simp only [List.length_take, List.length_drop, List.length_append, List.length_cons, List.length_nil, List.length_map]; omega)) [h, IntWalk.i64_in, IntWalk.i64_quo, haa, hab, hba, hbc, hac]))
        | (refine condK_split (fun h => ?_) (fun h => ?_) <;> (try simp (disch := first | omega | (simp only [List.length_take, List.length_drop, List.length_append, List.length_cons, List.length_nil, List.length_map]; omega)) [h, IntWalk.i64_in, IntWalk.i64_quo, haa, hab, hba, hbc, hac]))
    | false =>
      cases hac : lessN a c
      all_goals
        simp (disch := first | omega | (simp only [List.length_take, List.length_drop, List.length_append, List.length_cons, List.length_nil, List.length_map]; omega)) [IntWalk.i64_in, IntWalk.i64_quo, c6, haa, hab, hba, hbc, hac]
        repeat' first
          | (refine region_static rfl (by decide +kernel) ?_; try simp (disch := first | omega | (simp only [List.length_take, List.length_drop, List.length_append, List.length_cons, List.length_nil, List.length_map]; omega)) [IntWalk.i64_in, IntWalk.i64_quo, haa, hab, hba, hbc, hac])
          | (refine And.intro (by omega) ?_; try simp (disch := first | omega | (simp only [List.length_take, List.length_drop, List.length_append, List.length_cons, List.length_nil, List.length_map]; omega)) [IntWalk.i64_in, IntWalk.i64_quo, haa, hab, hba, hbc, hac])
          | (refine guardK_ndec (fun h => ?_) (fun h => ?_) <;> (try simp (disch := first | omega | (simp only [List.length_take, List.length_drop, List.length_append, List.length_cons, List.length_nil, List.length_map]; omega)) [h, IntWalk.i64_in, IntWalk.i64_quo, haa, hab, hba, hbc, hac]))
          | (refine guardK_dec (fun h => ?_) (fun h => ?_) <;> (try simp (disch := first | omega | (simp only [List.length_take, List.length_drop, List.length_append, List.length_cons, List.length_nil, List.length_map]; omega)) [h, IntWalk.i64_in, IntWalk.i64_quo, haa, hab, hba, hbc, hac]))
          | (refine guardK_nbeq (fun h => ?_) (fun h => ?_) <;> (try simp (disch := first | omega | (simp only [List.length_take, List.length_drop, List.length_append, List.length_cons, List.length_nil, List.length_map]; omega)) [h, IntWalk.i64_in, IntWalk.i64_quo, haa, hab, hba, hbc, hac]))
          | (refine guardK_beq (fun h => ?_) (fun h => ?_) <;> (try simp (disch := first | omega | (simp only [List.length_take, List.length_drop, List.length_append, List.length_cons, List.length_nil, List.length_map]; omega)) [h, IntWalk.i64_in, IntWalk.i64_quo, haa, hab, hba, hbc, hac]))
          | (refine guardK_bne (fun h => ?_) (fun h => ?_) <;> (try simp (disch := first | omega | (simp only [List.length_take, List.length_drop, List.length_append, List.length_cons, List.length_nil, List.length_map]; omega)) [h, IntWalk.i64_in, IntWalk.i64_quo, haa, hab, hba, hbc, hac]))
          | (refine guardK_not (fun h => ?_) (fun h => ?_) <;> (try simp (disch := first | omega | (simp only [List.length_take, List.length_drop, List.length_append, List.length_cons, List.length_nil, List.length_map]; omega)) [h, IntWalk.i64_in, IntWalk.i64_quo, haa, hab, hba, hbc, hac]))
          | (refine guardK_split (fun h => ?_) (fun h => ?_) <;> (try simp (disch := first | omega | (simp only [List.length_take, List.length_drop, List.length_append, List.length_cons, List.length_nil, List.length_map]; omega)) [h, IntWalk.i64_in, IntWalk.i64_quo, haa, hab, hba, hbc, hac]))
          | (refine condK_ndec (fun h => ?_) (fun h => ?_) <;> (try simp (disch := first | omega | (simp only [List.length_take, List.length_drop, List.length_append, List.length_cons, List.length_nil, List.length_map]; omega)) [h, IntWalk.i64_in, IntWalk.i64_quo, haa, hab, hba, hbc, hac]))
          | (refine condK_dec (fun h => ?_) (fun h => ?_) <;> (try simp (disch := first | omega | (simp only [List.length_take, List.length_drop, List.length_append, List.length_cons, List.length_nil, List.length_map]; omega)) [h, IntWalk.i64_in, IntWalk.i64_quo, haa, hab, hba, hbc, hac]))
          | (refine condK_nbeq (fun h => ?_) (fun h => ?_) <;> (try simp (disch := first | omega | (simp only [List.length_take, List.length_drop, List.length_append, List.length_cons, List.length_nil, List.length_map]; omega)) [h, IntWalk.i64_in, IntWalk.i64_quo, haa, hab, hba, hbc, hac]))
          | (refine condK_beq (fun h => ?_) (fun h => ?_) <;> (try simp (disch := first | omega | (simp only [List.length_take, List.length_drop, List.length_append, List.length_cons, List.length_nil, List.length_map]; omega)) [h, IntWalk.i64_in, IntWalk.i64_quo, haa, hab, hba, hbc, hac]))
          | (refine condK_bne (fun h => ?_) (fun h => ?_) <;> (try simp (disch := first | omega | (simp only [List.length_take, List.length_drop, List.length_append, List.length_cons, List.length_nil, List.length_map]; omega)) [h, IntWalk.i64_in, IntWalk.i64_quo, haa, hab, hba, hbc, hac]))
          | (refine condK_not (fun h => ?_) (fun h => ?_) <;> (try simp (disch := first | omega | (simp only [List.length_take, List.length_drop, List.length_append, List.length_cons, List.length_nil, List.length_map]; omega)) [h, IntWalk.i64_in, IntWalk.i64_quo, haa, hab, hba, hbc, hac]))
          | (refine condK_split (fun h => ?_) (fun h => ?_) <;> (try simp (disch := first | omega | (simp only [List.length_take, List.length_drop, List.length_append, List.length_cons, List.length_nil, List.length_map]; omega)) [h, IntWalk.i64_in, IntWalk.i64_quo, haa, hab, hba, hbc, hac]))
  | false =>
    cases hba : lessN b a with
    | true =>
      cases hbc : lessN b c <;> cases hac : lessN a c
      all_goals
        simp (disch := first | omega | (simp only [List.length_take, List.length_drop, List.length_append, List.length_cons, List.length_nil, List.length_map]; omega)) [IntWalk.i64_in, IntWalk.i64_quo, c6, haa, hab, hba, hbc, hac]
        repeat' first
          | (refine region_static rfl (by decide +kernel) ?_; try simp (disch := first | omega | (simp only [List.length_take, List.length_drop, List.length_append, List.length_cons, List.length_nil, List.length_map]; omega)) [IntWalk.i64_in, IntWalk.i64_quo, haa, hab, hba, hbc, hac])
          | (refine And.intro (by omega) ?_; try simp (disch := first | omega | (simp only [List.length_take, List.length_drop, List.length_append, List.length_cons, List.length_nil, List.length_map]; omega)) [IntWalk.i64_in, IntWalk.i64_quo, haa, hab, hba, hbc, hac])
          | (refine guardK_ndec (fun h => ?_) (fun h => ?_) <;> (try simp (disch := first | omega | (simp only [List.length_take, List.length_drop, List.length_append, List.length_cons, List.length_nil, List.length_map]; omega)) [h, IntWalk.i64_in, IntWalk.i64_quo, haa, hab, hba, hbc, hac]))
          | (refine guardK_dec (fun h => ?_) (fun h => ?_) <;> (try simp (disch := first | omega | (simp only [List.length_take, List.length_drop, List.length_append, List.length_cons, List.length_nil, List.length_map]; omega)) [h, IntWalk.i64_in, IntWalk.i64_quo, haa, hab, hba, hbc, hac]))
          | (refine guardK_nbeq (fun h => ?_) (fun h => ?_) <;> (try simp (disch := first | omega | (simp only [List.length_take, List.length_drop, List.length_append, List.length_cons, List.length_nil, List.length_map]; omega)) [h, IntWalk.i64_in, IntWalk.i64_quo, haa, hab, hba, hbc, hac]))
          | (refine guardK_beq (fun h => ?_) (fun h => ?_) <;> (try simp (disch := first | omega | (simp only [List.length_take, List.length_drop, List.length_append, List.length_cons, List.length_nil, List.length_map]; omega)) [h, IntWalk.i64_in, IntWalk.i64_quo, haa, hab, hba, hbc, hac]))
          | (refine guardK_bne (fun h => ?_) (fun h => ?_) <;> (try simp (disch := first | omega | (simp only [List.length_take, List.length_drop, List.length_append, List.length_cons, List.length_nil, List.length_map]; omega)) [h, IntWalk.i64_in, IntWalk.i64_quo, haa, hab, hba, hbc, hac]))
          | (refine guardK_not (fun h => ?_) (fun h => ?_) <;> (try simp (disch := first | omega | (simp only [List.length_take, List.length_drop, List.length_append, List.length_cons, List.length_nil, List.length_map]; omega)) [h, IntWalk.i64_in, IntWalk.i64_quo, haa, hab, hba, hbc, hac]))
          | (refine guardK_split (fun h => ?_) (fun h => ?_) <;> (try simp (disch := first | omega | (simp only [List.length_take, List.length_drop, List.length_append, List.length_cons, List.length_nil, List.length_map]; omega)) [h, IntWalk.i64_in, IntWalk.i64_quo, haa, hab, hba, hbc, hac]))
          | (refine condK_ndec (fun h => ?_) (fun h => ?_) <;> (try simp (disch := first | omega | (simp only [List.length_take, List.length_drop, List.length_append, List.length_cons, List.length_nil, List.length_map]; omega)) [h, IntWalk.i64_in, IntWalk.i64_quo, haa, hab, hba, hbc, hac]))
          | (refine condK_dec (fun h => ?_) (fun h => ?_) <;> (try simp (disch := first | omega | (simp only [List.length_take, List.length_drop, List.length_append, List.length_cons, List.length_nil, List.length_map]; omega)) [h, IntWalk.i64_in, IntWalk.i64_quo, haa, hab, hba, hbc, hac]))
          | (refine condK_nbeq (fun h => ?_) (fun h => ?_) <;> (try simp (disch := first | omega | (simp only [List.length_take, List.length_drop, List.length_append, List.length_cons, List.length_nil, List.length_map]; omega)) [h, IntWalk.i64_in, IntWalk.i64_quo, haa, hab, hba, hbc, hac]))
          | (refine condK_beq (fun h => ?_) (fun h => ?_) <;> (try simp (disch := first | omega | (simp only [List.length_take, List.length_drop, List.length_append, List.length_cons, List.length_nil, List.length_map]; omega)) [h, IntWalk.i64_in, IntWalk.i64_quo, haa, hab, hba, hbc, hac]))
          | (refine condK_bne (fun h => ?_) (fun h => ?_) <;> (try simp (disch := first | omega | (simp only [List.length_take, List.length_drop, List.length_append, List.length_cons, List.length_nil, List.length_map]; omega)) [h, IntWalk.i64_in, IntWalk.i64_quo, haa, hab, hba, hbc, hac]))
          | (refine condK_not (fun h => ?_) (fun h => ?_) <;> (try simp (disch := first | omega | (simp only [List.length_take, List.length_drop, List.length_append, List.length_cons, List.length_nil, List.length_map]; omega)) [h, IntWalk.i64_in, IntWalk.i64_quo, haa, hab, hba, hbc, hac]))
          | (refine condK_split (fun h => ?_) (fun h => ?_) <;> (try simp (disch := first | omega | (simp only [List.length_take, List.length_drop, List.length_append, List.length_cons, List.length_nil, List.length_map]; omega)) [h, IntWalk.i64_in, IntWalk.i64_quo, haa, hab, hba, hbc, hac]))
    | false =>
      obtain rfl := lessN_eq hab hba
      cases hac : lessN a c
      all_goals
        simp (disch := first | omega | (simp only [List.length_take, List.length_drop, List.length_append, List.length_cons, List.length_nil, List.length_map]; omega)) [IntWalk.i64_in, IntWalk.i64_quo, c6, haa, hac]
        repeat' first
          | (refine region_static rfl (by decide +kernel) ?_; try simp (disch := first | omega | (simp only [List.length_take, List.length_drop, List.length_append, List.length_cons, List.length_nil, List.length_map]; omega)) [IntWalk.i64_in, IntWalk.i64_quo, haa, hac])
          | (refine And.intro (by omega) ?_; try simp (disch := first | omega | (simp only [List.length_take, List.length_drop, List.length_append, List.length_cons, List.length_nil, List.length_map]; omega)) [IntWalk.i64_in, IntWalk.i64_quo, haa, hac])
          | (refine guardK_ndec (fun h => ?_) (fun h => ?_) <;> (try simp (disch := first | omega | (simp only [List.length_take, List.length_drop, List.length_append, List.length_cons, List.length_nil, List.length_map]; omega)) [h, IntWalk.i64_in, IntWalk.i64_quo, haa, hac]))
          | (refine guardK_dec (fun h => ?_) (fun h => ?_) <;> (try simp (disch := first | omega | (simp only [List.length_take, List.length_drop, List.length_append, List.length_cons, List.length_nil, List.length_map]; omega)) [h, IntWalk.i64_in, IntWalk.i64_quo, haa, hac]))
          | (refine guardK_nbeq (fun h => ?_) (fun h => ?_) <;> (try simp (disch := first | omega | (simp only [List.length_take, List.length_drop, List.length_append, List.length_cons, List.length_nil, List.length_map]; omega)) [h, IntWalk.i64_in, IntWalk.i64_quo, haa, hac]))
          | (refine guardK_beq (fun h => ?_) (fun h => ?_) <;> (try simp (disch := first | omega | (simp only [List.length_take, List.length_drop, List.length_append, List.length_cons, List.length_nil, List.length_map]; omega)) [h, IntWalk.i64_in, IntWalk.i64_quo, haa, hac]))
          | (refine guardK_bne (fun h => ?_) (fun h => ?_) <;> (try simp (disch := first | omega | (simp only [List.length_take, List.length_drop, List.length_append, List.length_cons, List.length_nil, List.length_map]; omega)) [h, IntWalk.i64_in, IntWalk.i64_quo, haa, hac]))
          | (refine guardK_not (fun h => ?_) (fun h => ?_) <;> (try simp (disch := first | omega | (simp only [List.length_take, List.length_drop, List.length_append, List.length_cons, List.length_nil, List.length_map]; omega)) [h, IntWalk.i64_in, IntWalk.i64_quo, haa, hac]))
          | (refine guardK_split (fun h => ?_) (fun h => ?_) <;> (try simp (disch := first | omega | (simp only [List.length_take, List.length_drop, List.length_append, List.length_cons, List.length_nil, List.length_map]; omega)) [h, IntWalk.i64_in, IntWalk.i64_quo, haa, hac]))
          | (refine condK_ndec (fun h => ?_) (fun h => ?_) <;> (try simp (disch := first | omega | (simp only [List.length_take, List.length_drop, List.length_append, List.length_cons, List.length_nil, List.length_map]; omega)) [h, IntWalk.i64_in, IntWalk.i64_quo, haa, hac]))
          | (refine condK_dec (fun h => ?_) (fun h => ?_) <;> (try simp (disch := first | omega | (simp only [List.length_take, List.length_drop, List.length_append, List.length_cons, List.length_nil, List.length_map]; omega)) [h, IntWalk.i64_in, IntWalk.i64_quo, haa, hac]))
          | (refine condK_nbeq (fun h => ?_) (fun h => ?_) <;> (try simp (disch := first | omega | (simp only [List.length_take, List.length_drop, List.length_append, List.length_cons, List.length_nil, List.length_map]; omega)) [h, IntWalk.i64_in, IntWalk.i64_quo, haa, hac]))
          | (refine condK_beq (fun h => ?_) (fun h => ?_) <;> (try simp (disch := first | omega | (simp only [List.length_take, List.length_drop, List.length_append, List.length_cons, List.length_nil, List.length_map]; omega)) [h, IntWalk.i64_in, IntWalk.i64_quo, haa, hac]))
          | (refine condK_bne (fun h => ?_) (fun h => ?_) <;> (try simp (disch := first | omega | (simp only [List.length_take, List.length_drop, List.length_append, List.length_cons, List.length_nil, List.length_map]; omega)) [h, IntWalk.i64_in, IntWalk.i64_quo, haa, hac]))
          | (refine condK_not (fun h => ?_) (fun h => ?_) <;> (try simp (disch := first | omega | (simp only [List.length_take, List.length_drop, List.length_append, List.length_cons, List.length_nil, List.length_map]; omega)) [h, IntWalk.i64_in, IntWalk.i64_quo, haa, hac]))
          | (refine condK_split (fun h => ?_) (fun h => ?_) <;> (try simp (disch := first | omega | (simp only [List.length_take, List.length_drop, List.length_append, List.length_cons, List.length_nil, List.length_map]; omega)) [h, IntWalk.i64_in, IntWalk.i64_quo, haa, hac]))
end Go.Proofs.Ytchaakjbedkndaa

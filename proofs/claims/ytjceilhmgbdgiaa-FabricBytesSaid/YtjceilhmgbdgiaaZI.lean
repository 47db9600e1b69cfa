/- Messages: what a kind looks at. -/
import Derived.Test.YtjceilhmgbdgiaaZH
set_option linter.all false
namespace Go.Proofs.Ytjceilhmgbdgiaa
open Go.Am

theorem within_f (n a b : Int) : within n a b = false ↔ ¬ (a ≤ n ∧ n ≤ b) := by
  rw [← within_iff, Bool.not_eq_true]
theorem cont3_spec (a b c e : Int) (st : St) : ASpec Try.prog 174 [.sl .any [.int .i64 a, .int .i64 b, .int .i64 c], .int .i64 e] st fun v st' => v = .bool (decide (e = a ∨ e = b ∨ e = c)) ∧ st' = st := by
  refine pure_of (R := fun v => v = _) C3s F174 rfl ?_
  simp (disch := first | omega | (simp only [LL]; omega)) [WW, c174]
  refine (index3_spec a b c e _).mono ?_
  rintro _ _ ⟨rfl, rfl⟩
  simp (disch := first | omega | (simp only [LL]; omega)) [WW]
  repeat' split
  all_goals simp [*]
theorem cont5_spec (a b c d f e : Int) (st : St) : ASpec Try.prog 174 [.sl .any [.int .i64 a, .int .i64 b, .int .i64 c, .int .i64 d, .int .i64 f], .int .i64 e] st fun v st' => v = .bool (decide (e = a ∨ e = b ∨ e = c ∨ e = d ∨ e = f)) ∧ st' = st := by
  refine pure_of (R := fun v => v = _) C3s F174 rfl ?_
  simp (disch := first | omega | (simp only [LL]; omega)) [WW, c174]
  refine (index5_spec a b c d f e _).mono ?_
  rintro _ _ ⟨rfl, rfl⟩
  simp (disch := first | omega | (simp only [LL]; omega)) [WW]
  repeat' split
  all_goals simp [*]
theorem one3 {m : Ms} {a b c : Int} {l : Nat} {st : St} (hl : st.heap[l]? = some (mB m)) : ASpec Try.prog 173 [.ptr l 0, .rptr (.sl .any [.int .i64 a, .int .i64 b, .int .i64 c])] st fun v st' => v = .bool (decide (m.e = a ∨ m.e = b ∨ m.e = c)) ∧ st' = st := by
  refine pure_of (R := fun v => v = _) C3s F173 rfl ?_
  have hM : mB m = .cells false (msC m) := rfl
  rw [hM] at hl
  simp (disch := first | omega | (simp only [LL]; omega)) [WW, c173]
  refine region_state [174] [] [0, 1, 2, 3, 4, 5, 6] (by decide +kernel) ?_
  simp (disch := first | omega | (simp only [LL]; omega)) [WW, hl]
  refine (cont3_spec a b c m.e _).mono ?_
  rintro _ _ ⟨rfl, rfl⟩
  simp (disch := first | omega | (simp only [LL]; omega)) [WW]
theorem one5 {m : Ms} {a b c d f : Int} {l : Nat} {st : St} (hl : st.heap[l]? = some (mB m)) : ASpec Try.prog 173 [.ptr l 0, .rptr (.sl .any [.int .i64 a, .int .i64 b, .int .i64 c, .int .i64 d, .int .i64 f])] st fun v st' => v = .bool (decide (m.e = a ∨ m.e = b ∨ m.e = c ∨ m.e = d ∨ m.e = f)) ∧ st' = st := by
  refine pure_of (R := fun v => v = _) C3s F173 rfl ?_
  have hM : mB m = .cells false (msC m) := rfl
  rw [hM] at hl
  simp (disch := first | omega | (simp only [LL]; omega)) [WW, c173]
  refine region_state [174] [] [0, 1, 2, 3, 4, 5, 6] (by decide +kernel) ?_
  simp (disch := first | omega | (simp only [LL]; omega)) [WW, hl]
  refine (cont5_spec a b c d f m.e _).mono ?_
  rintro _ _ ⟨rfl, rfl⟩
  simp (disch := first | omega | (simp only [LL]; omega)) [WW]
theorem such51 {l : Nat} {st : St} : ASpec Try.prog 171 [.ptr l 0] st fun v st' => v = .bool true ∧ st' = st := by
  refine pure_of (R := fun v => v = _) C3s F171 rfl ?_
  simp (disch := first | omega | (simp only [LL]; omega)) [WW, c171]
def zV : Vl := ⟨0, 0, 0, 0, 0, 0, 0, 0⟩
theorem such55 {m : Ms} {l : Nat} {st : St} (hl : st.heap[l]? = some (mB m)) : ASpec Try.prog 175 [.ptr l 0] st fun v st' => v = .bool (decide ((1 ≤ m.n ∧ m.n ≤ 1048576) ∧ 0 ≤ m.op ∧ m.op ≤ 2 ∧ (0 ≤ m.block ∧ m.block ≤ 31) ∧ (m.op = 1 ∨ m.val = zV))) ∧ st' = st := by
  refine pure_of (R := fun v => v = _) C3s F175 rfl ?_
  have hM : mB m = .cells false (msC m) := rfl
  have hz : (⟨0, 0, 0, 0, 0, 0, 0, 0⟩ : Vl) = zV := rfl
  rw [hM] at hl
  simp (disch := first | omega | (simp only [LL]; omega)) [WW, c175, hl, hz]
  repeat' first
    | (refine region_static rfl (by decide +kernel) ?_; try simp (disch := first | omega | (simp only [LL]; omega)) [WW, hl, hz])
    | (refine And.intro (by omega) ?_; try simp (disch := first | omega | (simp only [LL]; omega)) [WW, hl, hz])
    | (refine guardK_ndec (fun h => ?_) (fun h => ?_) <;> (try simp (disch := first | omega | (simp only [LL]; omega)) [h, WW, hl, hz]))
    | (refine guardK_dec (fun h => ?_) (fun h => ?_) <;> (try simp (disch := first | omega | (simp only [LL]; omega)) [h, WW, hl, hz]))
    | (refine guardK_nbeq (fun h => ?_) (fun h => ?_) <;> (try simp (disch := first | omega | (simp only [LL]; omega)) [h, WW, hl, hz]))
    | (refine guardK_beq (fun h => ?_) (fun h => ?_) <;> (try simp (disch := first | omega | (simp only [LL]; omega)) [h, WW, hl, hz]))
    | (refine guardK_bne (fun h => ?_) (fun h => ?_) <;> (try simp (disch := first | omega | (simp only [LL]; omega)) [h, WW, hl, hz]))
    | (refine guardK_not (fun h => ?_) (fun h => ?_) <;> (try simp (disch := first | omega | (simp only [LL]; omega)) [h, WW, hl, hz]))
    | (refine guardK_split (fun h => ?_) (fun h => ?_) <;> (try simp (disch := first | omega | (simp only [LL]; omega)) [h, WW, hl, hz]))
    | (refine condK_ndec (fun h => ?_) (fun h => ?_) <;> (try simp (disch := first | omega | (simp only [LL]; omega)) [h, WW, hl, hz]))
    | (refine condK_dec (fun h => ?_) (fun h => ?_) <;> (try simp (disch := first | omega | (simp only [LL]; omega)) [h, WW, hl, hz]))
    | (refine condK_nbeq (fun h => ?_) (fun h => ?_) <;> (try simp (disch := first | omega | (simp only [LL]; omega)) [h, WW, hl, hz]))
    | (refine condK_beq (fun h => ?_) (fun h => ?_) <;> (try simp (disch := first | omega | (simp only [LL]; omega)) [h, WW, hl, hz]))
    | (refine condK_bne (fun h => ?_) (fun h => ?_) <;> (try simp (disch := first | omega | (simp only [LL]; omega)) [h, WW, hl, hz]))
    | (refine condK_not (fun h => ?_) (fun h => ?_) <;> (try simp (disch := first | omega | (simp only [LL]; omega)) [h, WW, hl, hz]))
    | (refine condK_split (fun h => ?_) (fun h => ?_) <;> (try simp (disch := first | omega | (simp only [LL]; omega)) [h, WW, hl, hz]))
  all_goals ((try simp only [within_f, within_iff] at *); (try simp [*]); (try omega))
theorem such57 {m : Ms} {l : Nat} {st : St} (hw : m.ws.length ≤ 1048576) (hl : st.heap[l]? = some (mB m)) : ASpec Try.prog 177 [.ptr l 0] st fun v st' => v = .bool (given m.give m.take && written m.ws) ∧ st' = st := by
  refine pure_of (R := fun v => v = _) C3s F177 rfl ?_
  have hM : mB m = .cells false (msC m) := rfl
  rw [hM] at hl
  have hg : given m.give m.take = decide (0 ≤ m.give ∧ m.give ≤ 255 ∧ 0 ≤ m.take ∧ m.take ≤ 255 ∧ andI m.give m.take = 0) := by unfold given; rfl
  rw [hg]
  simp (disch := first | omega | (simp only [LL]; omega)) [WW, c177]
  repeat' first
    | (refine region_static rfl (by decide +kernel) ?_; try simp (disch := first | omega | (simp only [LL]; omega)) [WW, hl, hw])
    | (refine And.intro (by omega) ?_; try simp (disch := first | omega | (simp only [LL]; omega)) [WW, hl, hw])
    | (refine guardK_ndec (fun h => ?_) (fun h => ?_) <;> (try simp (disch := first | omega | (simp only [LL]; omega)) [h, WW, hl, hw]))
    | (refine guardK_dec (fun h => ?_) (fun h => ?_) <;> (try simp (disch := first | omega | (simp only [LL]; omega)) [h, WW, hl, hw]))
    | (refine guardK_nbeq (fun h => ?_) (fun h => ?_) <;> (try simp (disch := first | omega | (simp only [LL]; omega)) [h, WW, hl, hw]))
    | (refine guardK_beq (fun h => ?_) (fun h => ?_) <;> (try simp (disch := first | omega | (simp only [LL]; omega)) [h, WW, hl, hw]))
    | (refine guardK_bne (fun h => ?_) (fun h => ?_) <;> (try simp (disch := first | omega | (simp only [LL]; omega)) [h, WW, hl, hw]))
    | (refine guardK_not (fun h => ?_) (fun h => ?_) <;> (try simp (disch := first | omega | (simp only [LL]; omega)) [h, WW, hl, hw]))
    | (refine guardK_split (fun h => ?_) (fun h => ?_) <;> (try simp (disch := first | omega | (simp only [LL]; omega)) [h, WW, hl, hw]))
    | (refine condK_ndec (fun h => ?_) (fun h => ?_) <;> (try simp (disch := first | omega | (simp only [LL]; omega)) [h, WW, hl, hw]))
    | (refine condK_dec (fun h => ?_) (fun h => ?_) <;> (try simp (disch := first | omega | (simp only [LL]; omega)) [h, WW, hl, hw]))
    | (refine condK_nbeq (fun h => ?_) (fun h => ?_) <;> (try simp (disch := first | omega | (simp only [LL]; omega)) [h, WW, hl, hw]))
    | (refine condK_beq (fun h => ?_) (fun h => ?_) <;> (try simp (disch := first | omega | (simp only [LL]; omega)) [h, WW, hl, hw]))
    | (refine condK_bne (fun h => ?_) (fun h => ?_) <;> (try simp (disch := first | omega | (simp only [LL]; omega)) [h, WW, hl, hw]))
    | (refine condK_not (fun h => ?_) (fun h => ?_) <;> (try simp (disch := first | omega | (simp only [LL]; omega)) [h, WW, hl, hw]))
    | (refine condK_split (fun h => ?_) (fun h => ?_) <;> (try simp (disch := first | omega | (simp only [LL]; omega)) [h, WW, hl, hw]))
  all_goals ((try simp only [within_f, within_iff] at *); (try simp [*]); (try omega))
theorem such56 {m : Ms} {l L : Nat} {st : St} (hl : st.heap[l]? = some (mB m)) (hL : st.heap[L]? = some (.cells false [fnA 172])) : ASpec Try.prog 176 [.ptr l 0, .ptr L 0] st fun v st' => v = .bool (decide ((1 ≤ m.n ∧ m.n ≤ 1048576) ∧ (m.e = 0 ∨ m.e = 120 ∨ m.e = 112 ∨ m.e = 121 ∨ m.e = 50) ∧ (m.e = 0 ∨ m.val = zV))) ∧ st' = st := by
  refine pure_of (R := fun v => v = _) C3s F176 rfl ?_
  have hM : mB m = .cells false (msC m) := rfl
  have hz : (⟨0, 0, 0, 0, 0, 0, 0, 0⟩ : Vl) = zV := rfl
  have hl' := hl
  rw [hM] at hl
  by_cases hn : 1 ≤ m.n ∧ m.n ≤ 1048576
  · have hn' : within m.n 1 1048576 = true := within_iff.2 hn
    simp (disch := first | omega | (simp only [LL]; omega)) [WW, c176, hl, hz, hn', hL]
    refine (one5 hl').mono ?_
    rintro _ _ ⟨rfl, rfl⟩
    clear hl'
    simp (disch := first | omega | (simp only [LL]; omega)) [WW, hl, hz]
    repeat' first
      | (refine region_static rfl (by decide +kernel) ?_; try simp (disch := first | omega | (simp only [LL]; omega)) [WW, hl, hz])
      | (refine And.intro (by omega) ?_; try simp (disch := first | omega | (simp only [LL]; omega)) [WW, hl, hz])
      | (refine guardK_ndec (fun h => ?_) (fun h => ?_) <;> (try simp (disch := first | omega | (simp only [LL]; omega)) [h, WW, hl, hz]))
      | (refine guardK_dec (fun h => ?_) (fun h => ?_) <;> (try simp (disch := first | omega | (simp only [LL]; omega)) [h, WW, hl, hz]))
      | (refine guardK_nbeq (fun h => ?_) (fun h => ?_) <;> (try simp (disch := first | omega | (simp only [LL]; omega)) [h, WW, hl, hz]))
      | (refine guardK_beq (fun h => ?_) (fun h => ?_) <;> (try simp (disch := first | omega | (simp only [LL]; omega)) [h, WW, hl, hz]))
      | (refine guardK_bne (fun h => ?_) (fun h => ?_) <;> (try simp (disch := first | omega | (simp only [LL]; omega)) [h, WW, hl, hz]))
      | (refine guardK_not (fun h => ?_) (fun h => ?_) <;> (try simp (disch := first | omega | (simp only [LL]; omega)) [h, WW, hl, hz]))
      | (refine guardK_split (fun h => ?_) (fun h => ?_) <;> (try simp (disch := first | omega | (simp only [LL]; omega)) [h, WW, hl, hz]))
      | (refine condK_ndec (fun h => ?_) (fun h => ?_) <;> (try simp (disch := first | omega | (simp only [LL]; omega)) [h, WW, hl, hz]))
      | (refine condK_dec (fun h => ?_) (fun h => ?_) <;> (try simp (disch := first | omega | (simp only [LL]; omega)) [h, WW, hl, hz]))
      | (refine condK_nbeq (fun h => ?_) (fun h => ?_) <;> (try simp (disch := first | omega | (simp only [LL]; omega)) [h, WW, hl, hz]))
      | (refine condK_beq (fun h => ?_) (fun h => ?_) <;> (try simp (disch := first | omega | (simp only [LL]; omega)) [h, WW, hl, hz]))
      | (refine condK_bne (fun h => ?_) (fun h => ?_) <;> (try simp (disch := first | omega | (simp only [LL]; omega)) [h, WW, hl, hz]))
      | (refine condK_not (fun h => ?_) (fun h => ?_) <;> (try simp (disch := first | omega | (simp only [LL]; omega)) [h, WW, hl, hz]))
      | (refine condK_split (fun h => ?_) (fun h => ?_) <;> (try simp (disch := first | omega | (simp only [LL]; omega)) [h, WW, hl, hz]))
    all_goals (simp [*]; try omega)
  · have hn' : within m.n 1 1048576 = false := (within_f _ _ _).2 hn
    simp (disch := first | omega | (simp only [LL]; omega)) [WW, c176, hl, hz, hn']
    omega
end Go.Proofs.Ytjceilhmgbdgiaa

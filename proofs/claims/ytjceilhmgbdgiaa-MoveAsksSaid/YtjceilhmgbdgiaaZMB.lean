/- Moves: ask, own, Tick, Begin, Writes. -/
import Derived.Test.YtjceilhmgbdgiaaZMA
set_option linter.all false
namespace Go.Proofs.Ytjceilhmgbdgiaa
open Go.Am

noncomputable def D5 : Orc := D4.add 18 (tab (fun x : Int × Int × Int × Int × Int × Int × Int × Int × List Vl => [.agg [.int .i8 x.1, .int .i64 x.2.1, .int .i64 x.2.2.1, .int .i64 x.2.2.2.1, .int .i64 x.2.2.2.2.1, .int .i64 x.2.2.2.2.2.1, .int .i64 x.2.2.2.2.2.2.1, .int .i64 x.2.2.2.2.2.2.2.1, .sl .any (vls x.2.2.2.2.2.2.2.2)]]) (fun x => .int .i64 (eOf (checkM ⟨x.1, ⟨x.2.1, x.2.2.1, x.2.2.2.1⟩, x.2.2.2.2.1, x.2.2.2.2.2.1, x.2.2.2.2.2.2.1, x.2.2.2.2.2.2.2.1, x.2.2.2.2.2.2.2.2⟩))) fun x => x.2.2.2.2.2.2.2.2.length ≤ 1048576)
theorem D5s : OSound Try.prog D5 := D4s.tab fun x h st => check_spec ⟨x.1, ⟨x.2.1, x.2.2.1, x.2.2.2.1⟩, x.2.2.2.2.1, x.2.2.2.2.2.1, x.2.2.2.2.2.2.1, x.2.2.2.2.2.2.2.1, x.2.2.2.2.2.2.2.2⟩ h st
@[simp] theorem D5_18 (p : Int) (a : Int) (b : Int) (c : Int) (s : Int) (t : Int) (f : Int) (n : Int) (l : List Vl) (h : l.length ≤ 1048576) : D5 18 [.agg [.int .i8 p, .int .i64 a, .int .i64 b, .int .i64 c, .int .i64 s, .int .i64 t, .int .i64 f, .int .i64 n, .sl .any (vls l)]] = some (.int .i64 (eOf (checkM ⟨p, ⟨a, b, c⟩, s, t, f, n, l⟩))) := by
  rw [D5, Orc.add_same]
  exact tab_eq (fun x y h => by simp at h; simp [h]) (x := (p, a, b, c, s, t, f, n, l)) h
@[simp] theorem D5_o (f : Nat) (args : List AV) (h : f ≠ 18) : D5 f args = D4 f args := by
  rw [D5, Orc.add_other _ _ _ _ _ h]
@[simp] theorem D5_18z (p a b c s t f n : Int) : D5 18 [.agg [.int .i8 p, .int .i64 a, .int .i64 b, .int .i64 c, .int .i64 s, .int .i64 t, .int .i64 f, .int .i64 n, .sl .any []]] = some (.int .i64 (eOf (checkM ⟨p, ⟨a, b, c⟩, s, t, f, n, []⟩))) := D5_18 p a b c s t f n [] (by simp)
def askM (m : Mv) : Ms := ⟨2, 0, m.fr, 0, 0, m.nm, m.n, 2, m.stripe * 4 + m.n - 1, ⟨0, 0, 0, 0, 0, 0, 0, 0⟩, 0, false, 0, 0, []⟩
theorem ask_spec (m : Mv) (hs : 0 ≤ m.stripe ∧ m.stripe ≤ 7) (hn : 1 ≤ m.n ∧ m.n ≤ 4) (st : St) : ASpec Try.prog 61 [.rptr (.agg (mvC m))] st fun v st' => v = .sl .any [.agg (msC (askM m))] ∧ st' = st := by
  refine pure_of (R := fun v => v = _) D5s F61 rfl ?_
  simp (disch := first | omega | (simp only [List.length_take, List.length_drop, List.length_append, List.length_cons, List.length_nil, List.length_map]; omega)) [IntWalk.i64_in, IntWalk.i64_quo, c61]
  refine region_static rfl (by decide +kernel) ?_
  simp (disch := first | omega | (simp only [List.length_take, List.length_drop, List.length_append, List.length_cons, List.length_nil, List.length_map]; omega)) [IntWalk.i64_in, IntWalk.i64_quo, askM, u8]
theorem ask_specP {m : Mv} (hs : 0 ≤ m.stripe ∧ m.stripe ≤ 7) (hn : 1 ≤ m.n ∧ m.n ≤ 4) {l : Nat} {fz : Bool} {st : St} {x : AV} (hl : st.heap[l]? = some (.cells fz [.int .i8 m.ph, .int .i64 m.nm.stamp, .int .i64 m.nm.inc, .int .i64 m.nm.tr, .int .i64 m.stripe, .int .i64 m.to, .int .i64 m.fr, .int .i64 m.n, x])) : ASpec Try.prog 61 [.ptr l 0] st fun v st' => v = .sl .any [.agg (msC (askM m))] ∧ st' = st := by
  refine pure_of (R := fun v => v = _) D5s F61 rfl ?_
  simp (disch := first | omega | (simp only [List.length_take, List.length_drop, List.length_append, List.length_cons, List.length_nil, List.length_map]; omega)) [IntWalk.i64_in, IntWalk.i64_quo, c61]
  refine region_static rfl (by decide +kernel) ?_
  simp (disch := first | omega | (simp only [List.length_take, List.length_drop, List.length_append, List.length_cons, List.length_nil, List.length_map]; omega)) [IntWalk.i64_in, IntWalk.i64_quo, askM, hl, u8]
theorem own_spec (m : Mv) (h : m.vals.length ≤ 1048576) (st : St) : ASpec Try.prog 62 [.agg (mvC m)] st fun v st' => v = .agg (mvC m) ∧ st' = st := by
  refine pure_of (R := fun v => v = _) D5s F62 rfl ?_
  simp (disch := first | omega | (simp only [List.length_take, List.length_drop, List.length_append, List.length_cons, List.length_nil, List.length_map]; omega)) [IntWalk.i64_in, IntWalk.i64_quo, c62, h]
noncomputable def D6 : Orc := D5.add 62 (tab (fun x : Int × Int × Int × Int × Int × Int × Int × Int × List Vl => [.agg [.int .i8 x.1, .int .i64 x.2.1, .int .i64 x.2.2.1, .int .i64 x.2.2.2.1, .int .i64 x.2.2.2.2.1, .int .i64 x.2.2.2.2.2.1, .int .i64 x.2.2.2.2.2.2.1, .int .i64 x.2.2.2.2.2.2.2.1, .sl .any (vls x.2.2.2.2.2.2.2.2)]]) (fun x => .agg [.int .i8 x.1, .int .i64 x.2.1, .int .i64 x.2.2.1, .int .i64 x.2.2.2.1, .int .i64 x.2.2.2.2.1, .int .i64 x.2.2.2.2.2.1, .int .i64 x.2.2.2.2.2.2.1, .int .i64 x.2.2.2.2.2.2.2.1, .sl .any (vls x.2.2.2.2.2.2.2.2)]) fun x => x.2.2.2.2.2.2.2.2.length ≤ 1048576)
theorem D6s : OSound Try.prog D6 := D5s.tab fun x h st => own_spec ⟨x.1, ⟨x.2.1, x.2.2.1, x.2.2.2.1⟩, x.2.2.2.2.1, x.2.2.2.2.2.1, x.2.2.2.2.2.2.1, x.2.2.2.2.2.2.2.1, x.2.2.2.2.2.2.2.2⟩ h st
@[simp] theorem D6_62 (p : Int) (a : Int) (b : Int) (c : Int) (s : Int) (t : Int) (f : Int) (n : Int) (l : List Vl) (h : l.length ≤ 1048576) : D6 62 [.agg [.int .i8 p, .int .i64 a, .int .i64 b, .int .i64 c, .int .i64 s, .int .i64 t, .int .i64 f, .int .i64 n, .sl .any (vls l)]] = some (.agg [.int .i8 p, .int .i64 a, .int .i64 b, .int .i64 c, .int .i64 s, .int .i64 t, .int .i64 f, .int .i64 n, .sl .any (vls l)]) := by
  rw [D6, Orc.add_same]
  exact tab_eq (fun x y h => by simp at h; simp [h]) (x := (p, a, b, c, s, t, f, n, l)) h
@[simp] theorem D6_o (f : Nat) (args : List AV) (h : f ≠ 62) : D6 f args = D5 f args := by
  rw [D6, Orc.add_other _ _ _ _ _ h]
noncomputable def D7 : Orc := D6.add 61 (tab (fun x : Int × Int × Int × Int × Int × Int × Int × Int × List Vl => [.rptr (.agg [.int .i8 x.1, .int .i64 x.2.1, .int .i64 x.2.2.1, .int .i64 x.2.2.2.1, .int .i64 x.2.2.2.2.1, .int .i64 x.2.2.2.2.2.1, .int .i64 x.2.2.2.2.2.2.1, .int .i64 x.2.2.2.2.2.2.2.1, .sl .any (vls x.2.2.2.2.2.2.2.2)])]) (fun x => .sl .any [.agg (msC (askM ⟨x.1, ⟨x.2.1, x.2.2.1, x.2.2.2.1⟩, x.2.2.2.2.1, x.2.2.2.2.2.1, x.2.2.2.2.2.2.1, x.2.2.2.2.2.2.2.1, x.2.2.2.2.2.2.2.2⟩))]) fun x => (0 ≤ x.2.2.2.2.1 ∧ x.2.2.2.2.1 ≤ 7) ∧ (1 ≤ x.2.2.2.2.2.2.2.1 ∧ x.2.2.2.2.2.2.2.1 ≤ 4))
theorem D7s : OSound Try.prog D7 := D6s.tab fun x h st => ask_spec ⟨x.1, ⟨x.2.1, x.2.2.1, x.2.2.2.1⟩, x.2.2.2.2.1, x.2.2.2.2.2.1, x.2.2.2.2.2.2.1, x.2.2.2.2.2.2.2.1, x.2.2.2.2.2.2.2.2⟩ h.1 h.2 st
@[simp] theorem D7_61 (p : Int) (a : Int) (b : Int) (c : Int) (s : Int) (t : Int) (f : Int) (n : Int) (l : List Vl) (h : (0 ≤ s ∧ s ≤ 7) ∧ (1 ≤ n ∧ n ≤ 4)) : D7 61 [.rptr (.agg [.int .i8 p, .int .i64 a, .int .i64 b, .int .i64 c, .int .i64 s, .int .i64 t, .int .i64 f, .int .i64 n, .sl .any (vls l)])] = some (.sl .any [.agg (msC (askM ⟨p, ⟨a, b, c⟩, s, t, f, n, l⟩))]) := by
  rw [D7, Orc.add_same]
  exact tab_eq (fun x y h => by simp at h; simp [h]) (x := (p, a, b, c, s, t, f, n, l)) h
@[simp] theorem D7_o (f : Nat) (args : List AV) (h : f ≠ 61) : D7 f args = D6 f args := by
  rw [D7, Orc.add_other _ _ _ _ _ h]
def tickM (m : Mv) : Mv × List Ms × Int := if checkM m = true then (if m.ph = 1 then (m, [askM m], 0) else (m, [], 0)) else (zMv, [], 2)
def mss (l : List Ms) : List AV := l.map fun m => .agg (msC m)
theorem check_n {m : Mv} (h : checkM m = true) (h1 : m.ph = 1) : suchC m.stripe m.to m.fr m.nm = true ∧ (1 ≤ m.n ∧ m.n ≤ 4) ∧ (m.vals.length : Int) = m.n - 1 := by
  unfold checkM at h
  rw [if_neg (by omega), if_pos h1] at h
  simp only [Bool.and_eq_true, within_iff, decide_eq_true_eq] at h
  exact ⟨h.1.1, h.1.2, h.2⟩
theorem tick_spec (m : Mv) (h : m.vals.length ≤ 1048576) (st : St) : ASpec Try.prog 15 [.agg (mvC m)] st fun v st' => v = .tup [.agg (mvC (tickM m).1), .sl .any (mss (tickM m).2.1), .int .i64 (tickM m).2.2] ∧ st' = st := by
  refine pure_of (R := fun v => v = _) D7s F15 rfl ?_
  unfold tickM
  by_cases hc : checkM m = true
  · by_cases h1 : m.ph = 1
    · obtain ⟨k1, k2, k3⟩ := check_n hc h1
      obtain ⟨s1, _⟩ := suchC_facts k1
      have hc' : checkM ⟨1, m.nm, m.stripe, m.to, m.fr, m.n, m.vals⟩ = true := by rw [← h1]; exact hc
      have ha : askM ⟨1, m.nm, m.stripe, m.to, m.fr, m.n, m.vals⟩ = askM m := by rw [← h1]
      simp (disch := first | omega | (simp only [List.length_take, List.length_drop, List.length_append, List.length_cons, List.length_nil, List.length_map]; omega)) [IntWalk.i64_in, IntWalk.i64_quo, c15, h, hc, hc', h1, eOf, s1, k2, mss, ha]
    · simp (disch := first | omega | (simp only [List.length_take, List.length_drop, List.length_append, List.length_cons, List.length_nil, List.length_map]; omega)) [IntWalk.i64_in, IntWalk.i64_quo, c15, h, hc, h1, eOf, mss]
  · simp (disch := first | omega | (simp only [List.length_take, List.length_drop, List.length_append, List.length_cons, List.length_nil, List.length_map]; omega)) [IntWalk.i64_in, IntWalk.i64_quo, c15, h, hc, eOf, mss, zMv]
end Go.Proofs.Ytjceilhmgbdgiaa

/- Moves: Hear. -/
import Derived.Test.YtjceilhmgbdgiaaZMC
set_option linter.all false
namespace Go.Proofs.Ytjceilhmgbdgiaa
open Go.Am

theorem nm_beq (a b : Nm) : (a.stamp == b.stamp && (a.inc == b.inc && a.tr == b.tr)) = decide (a = b) := by
  cases a; cases b
  rw [Bool.eq_iff_iff]
  simp
def gotM (m : Mv) (v : Vl) : Mv := ⟨m.ph, m.nm, m.stripe, m.to, m.fr, m.n, m.vals ++ [v]⟩
def hearM (m : Mv) (x : Ms) : Mv × List Ms × Int × Int :=
  if checkM m = true ∧ mayM x = true ∧ x.kind = 3 then
    if m.ph = 1 ∧ x.nm = m.nm ∧ x.n = m.n ∧ x.fr = m.fr then
      if x.e = 0 then
        if m.vals.length = 3 then (⟨2, m.nm, m.stripe, m.to, m.fr, m.n, m.vals ++ [x.val]⟩, [], 1, 0)
        else (⟨1, m.nm, m.stripe, m.to, m.fr, m.n + 1, m.vals ++ [x.val]⟩, [askM ⟨1, m.nm, m.stripe, m.to, m.fr, m.n + 1, m.vals ++ [x.val]⟩], 0, 0)
      else (zMv, [], 2, 0)
    else (m, [], 0, 0)
  else (zMv, [], 0, 2)
theorem nm_eq (a b : Nm) : a = b ↔ a.stamp = b.stamp ∧ a.inc = b.inc ∧ a.tr = b.tr := by
  cases a; cases b; simp
theorem hear_spec (m : Mv) (x : Ms) (hl : m.vals.length ≤ 1048576) (hw : x.ws.length ≤ 1048576) (st : St) : ASpec Try.prog 17 [.agg (mvC m), .agg (msC x)] st fun v st' => v = .tup [.agg (mvC (hearM m x).1), .sl .any (mss (hearM m x).2.1), .int .i8 (hearM m x).2.2.1, .int .i64 (hearM m x).2.2.2] ∧ st' = st := by
  refine pure_of (R := fun v => v = _) D9s F17 rfl ?_
  unfold hearM
  obtain ⟨p, nm, s, t, f, n, l⟩ := m
  obtain ⟨k, xf, xto, xi, xy, xnm, xn, xop, xb, xv, xe, xyes, xg, xt, xws⟩ := x
  simp only at hl hw ⊢
  by_cases hc : checkM ⟨p, nm, s, t, f, n, l⟩ = true
  case neg =>
    simp (disch := first | omega | (simp only [List.length_take, List.length_drop, List.length_append, List.length_cons, List.length_nil, List.length_map]; omega)) [IntWalk.i64_in, IntWalk.i64_quo, c17, hl, hw, hc, eOf, mss, zMv]
  by_cases hx : mayM ⟨k, xf, xto, xi, xy, xnm, xn, xop, xb, xv, xe, xyes, xg, xt, xws⟩ = true
  case neg =>
    simp (disch := first | omega | (simp only [List.length_take, List.length_drop, List.length_append, List.length_cons, List.length_nil, List.length_map]; omega)) [IntWalk.i64_in, IntWalk.i64_quo, c17, hl, hw, hc, hx, eOf, mss, zMv]
  by_cases hk : k = 3
  case neg =>
    simp (disch := first | omega | (simp only [List.length_take, List.length_drop, List.length_append, List.length_cons, List.length_nil, List.length_map]; omega)) [IntWalk.i64_in, IntWalk.i64_quo, c17, hl, hw, hc, hx, hk, eOf, mss, zMv]
  subst hk
  by_cases hp : p = 1
  case neg =>
    simp (disch := first | omega | (simp only [List.length_take, List.length_drop, List.length_append, List.length_cons, List.length_nil, List.length_map]; omega)) [IntWalk.i64_in, IntWalk.i64_quo, c17, hl, hw, hc, hx, eOf, mss, hp]
  subst hp
  by_cases hn : xnm = nm
  case neg =>
    simp (disch := first | omega | (simp only [List.length_take, List.length_drop, List.length_append, List.length_cons, List.length_nil, List.length_map]; omega)) [IntWalk.i64_in, IntWalk.i64_quo, c17, hl, hw, hc, hx, eOf, mss, nm_beq, hn]
  subst hn
  by_cases hx2 : xn = n
  case neg =>
    simp (disch := first | omega | (simp only [List.length_take, List.length_drop, List.length_append, List.length_cons, List.length_nil, List.length_map]; omega)) [IntWalk.i64_in, IntWalk.i64_quo, c17, hl, hw, hc, hx, eOf, mss, hx2]
  subst hx2
  by_cases hf : xf = f
  case neg =>
    simp (disch := first | omega | (simp only [List.length_take, List.length_drop, List.length_append, List.length_cons, List.length_nil, List.length_map]; omega)) [IntWalk.i64_in, IntWalk.i64_quo, c17, hl, hw, hc, hx, eOf, mss, hf]
  subst hf
  obtain ⟨k1, k2, k3⟩ := check_n hc rfl
  obtain ⟨s1, _⟩ := suchC_facts k1
  simp only at k2 k3 s1
  by_cases he : xe = 0
  case neg =>
    simp (disch := first | omega | (simp only [List.length_take, List.length_drop, List.length_append, List.length_cons, List.length_nil, List.length_map]; omega)) [IntWalk.i64_in, IntWalk.i64_quo, c17, hl, hw, hc, hx, eOf, mss, he, zMv]
  subst he
  by_cases hv : l.length = 3
  · simp (disch := first | omega | (simp only [List.length_take, List.length_drop, List.length_append, List.length_cons, List.length_nil, List.length_map]; omega)) [IntWalk.i64_in, IntWalk.i64_quo, c17, hl, hw, hc, hx, eOf, mss, hv]
    refine region_static rfl (by decide +kernel) ?_
    simp (disch := first | omega | (simp only [List.length_take, List.length_drop, List.length_append, List.length_cons, List.length_nil, List.length_map]; omega)) [IntWalk.i64_in, IntWalk.i64_quo, hv, List.take_of_length_le]
  · simp (disch := first | omega | (simp only [List.length_take, List.length_drop, List.length_append, List.length_cons, List.length_nil, List.length_map]; omega)) [IntWalk.i64_in, IntWalk.i64_quo, c17, hl, hw, hc, hx, eOf, mss, hv]
    refine region_static rfl (by decide +kernel) ?_
    have hv' : ¬ (l.length : Int) + 1 = 4 := by omega
    have hll : l.length ≤ 2147483647 := by omega
    simp (disch := first | omega | (simp only [List.length_take, List.length_drop, List.length_append, List.length_cons, List.length_nil, List.length_map]; omega)) [IntWalk.i64_in, IntWalk.i64_quo, hv', hll]
    refine region_state [61] [61] [0, 1, 2, 3, 4, 5] (by decide +kernel) ?_
    simp (disch := first | omega | (simp only [List.length_take, List.length_drop, List.length_append, List.length_cons, List.length_nil, List.length_map]; omega)) [IntWalk.i64_in, IntWalk.i64_quo]
    refine ASpec.mono (ask_specP (m := ⟨1, xnm, s, t, xf, xn + 1, l ++ [xv]⟩) (x := .sl (.own st.toks.length) (vls (l ++ [xv]))) s1 ?hn (fz := false) ?h) ?_
    case hn => simp only; omega
    case h => simp
    rintro _ _ ⟨rfl, rfl⟩
    simp (disch := first | omega | (simp only [List.length_take, List.length_drop, List.length_append, List.length_cons, List.length_nil, List.length_map]; omega)) [IntWalk.i64_in, IntWalk.i64_quo]
end Go.Proofs.Ytjceilhmgbdgiaa

/- MoveAsks. -/
import Derived.Test.YtjceilhmgbdgiaaZME
set_option linter.all false
namespace Go.Proofs.Ytjceilhmgbdgiaa
open Go.Am

@[simp] theorem mss_length (l : List Ms) : (mss l).length = l.length := by simp [mss]
@[simp] theorem mss_nil : mss [] = [] := rfl
@[simp] theorem mss_get (l : List Ms) (i : Nat) : (mss l)[i]? = l[i]?.map fun m => .agg (msC m) := by simp [mss]
@[simp] theorem mss_allSz (l : List Ms) : allSz 24 (mss l) = true := allSz_map _ _ _ fun _ => rfl
@[simp] theorem mss_norm (l : List Ms) : normL (mss l) = mss l := normL_map _ _ fun x => by simp
@[simp] theorem mss_ok (l : List Ms) (n m : Nat) : okL n m (mss l) = true := okL_map _ _ fun x _ => by simp
def AI (s t f : Int) (nm : Nm) (l : List Ms) (st : St) (k : Nat) (env : Env) (s' : St) : Prop :=
  ∃ i want told out, k + i = l.length ∧ (1 ≤ want ∧ want ≤ 4) ∧ ((told : List Vl).length : Int) = want - 1 ∧ (out = [] ∨ out = [askM ⟨1, nm, s, t, f, want, told⟩]) ∧
    env 1 = .int .i64 f ∧ env 4 = .rptr (.agg [.int .i64 s, .int .i64 t]) ∧ env 6 = .rptr (.agg (nmC nm)) ∧ env 9 = .ptr st.heap.length 0 ∧ env 10 = .sl .any (mss out) ∧ env 12 = .int .i64 want ∧ env 13 = .sl (.own st.toks.length) (vls told) ∧
    env 48 = .sl .any (mss l) ∧ env 49 = .int .i64 l.length ∧ env 50 = .int .i64 i ∧ s' = ⟨st.heap ++ [.cells false (mvC ⟨1, nm, s, t, f, want, told⟩)], st.toks ++ [(told.length, 8)]⟩
set_option maxRecDepth 20000 in
set_option maxHeartbeats 4000000 in
theorem lasks_spec (s t f : Int) (nm : Nm) (l : List Ms) (st : St) : ASpec Try.prog 3 [.agg [.int .i64 s, .int .i64 t], .int .i64 f, .agg (nmC nm), .sl .any (mss l)] st fun v st' => v = .bool true ∧ st' = st := by
  refine pure_of (R := fun v => v = _) E7s F3 rfl ?_
  by_cases hg : 60 < l.length
  · have hg' : 60 < (l.length : Int) := by omega
    simp (disch := first | omega | (simp only [List.length_take, List.length_drop, List.length_append, List.length_cons, List.length_nil, List.length_map]; omega)) [IntWalk.i64_in, IntWalk.i64_quo, c3, hg']
  have hg' : ¬ 60 < (l.length : Int) := by omega
  by_cases hs : suchC s t f nm = true
  case neg =>
    have hb : beginM s t f nm = (zMv, [], 2) := by rw [beginM, if_neg hs]
    simp (disch := first | omega | (simp only [List.length_take, List.length_drop, List.length_append, List.length_cons, List.length_nil, List.length_map]; omega)) [IntWalk.i64_in, IntWalk.i64_quo, c3, hg', hb]
  have hb : beginM s t f nm = (⟨1, nm, s, t, f, 1, []⟩, [askM ⟨1, nm, s, t, f, 1, []⟩], 0) := by rw [beginM, if_pos hs]
  simp (disch := first | omega | (simp only [List.length_take, List.length_drop, List.length_append, List.length_cons, List.length_nil, List.length_map]; omega)) [IntWalk.i64_in, IntWalk.i64_quo, c3, hg', hb]
  refine awC_loopOwn 13 8 [] (by simp) (AI s t f nm l st) l.length ?_ ?_
  · exact ⟨0, 1, [], _, by simp, by simp, by simp, .inr rfl, by simp [mss]⟩
  rintro k env s' ⟨i, want, told, out, hk, hw, htl, hout, e1, e4, e6, e9, e10, e12, e13, e48, e49, e50, rfl⟩
  obtain ⟨s1, _⟩ := suchC_facts hs
  have hz : zMv.vals.length ≤ 1048576 := by decide
  have hc : checkM ⟨1, nm, s, t, f, want, told⟩ = true := by
    simp [checkM, hs, within_iff.2 hw, htl]
  have hl' : told.length ≤ 1048576 := by omega
  have hwr : writesM ⟨1, nm, s, t, f, want, told⟩ = [] := by rw [writesM, if_neg (by simp)]
  by_cases hi : i < l.length
  case neg =>
    have hi' : ¬ (i : Int) < l.length := by omega
    simp (disch := first | omega | (simp only [List.length_take, List.length_drop, List.length_append, List.length_cons, List.length_nil, List.length_map]; omega)) [IntWalk.i64_in, IntWalk.i64_quo, e1, e4, e6, e9, e10, e12, e13, e48, e49, e50, hi', hwr, hl']
  have hi' : (i : Int) < l.length := by omega
  by_cases hgx : 40 < l[i].ws.length
  · simp (disch := first | omega | (simp only [List.length_take, List.length_drop, List.length_append, List.length_cons, List.length_nil, List.length_map]; omega)) [IntWalk.i64_in, IntWalk.i64_quo, e1, e4, e6, e9, e10, e12, e13, e48, e49, e50, hi', hi, hgx]
  have hgl : l[i].ws.length ≤ 1048576 := by omega
  have htk : tickM ⟨1, nm, s, t, f, want, told⟩ = (⟨1, nm, s, t, f, want, told⟩, [askM ⟨1, nm, s, t, f, want, told⟩], 0) := by rw [tickM, if_pos hc, if_pos rfl]
  rcases hout with rfl | rfl
  case' inl =>
    simp (disch := first | omega | (simp only [List.length_take, List.length_drop, List.length_append, List.length_cons, List.length_nil, List.length_map]; omega)) [IntWalk.i64_in, IntWalk.i64_quo, e1, e4, e6, e9, e10, e12, e13, e48, e49, e50, hi', hi, hgx]
    refine awC_loopU 1 ?_
    simp (disch := first | omega | (simp only [List.length_take, List.length_drop, List.length_append, List.length_cons, List.length_nil, List.length_map]; omega)) [IntWalk.i64_in, IntWalk.i64_quo, e1, e4, e6, e9, e12, e13, e48, e49, e50]
  case' inr =>
    simp (disch := first | omega | (simp only [List.length_take, List.length_drop, List.length_append, List.length_cons, List.length_nil, List.length_map]; omega)) [IntWalk.i64_in, IntWalk.i64_quo, e1, e4, e6, e9, e10, e12, e13, e48, e49, e50, hi', hi, hgx]
    refine awC_loopU 2 ?_
    simp (disch := first | omega | (simp only [List.length_take, List.length_drop, List.length_append, List.length_cons, List.length_nil, List.length_map]; omega)) [IntWalk.i64_in, IntWalk.i64_quo, e1, e4, e6, e9, e12, e13, e48, e49, e50, askM, mss]
  all_goals
    by_cases hx0 : l[i].kind = 0
    case pos =>
      simp (disch := first | omega | (simp only [List.length_take, List.length_drop, List.length_append, List.length_cons, List.length_nil, List.length_map]; omega)) [IntWalk.i64_in, IntWalk.i64_quo, e1, e4, e6, e9, e12, e13, e48, e49, e50, hx0, htk, hl']
      refine ⟨k - 1, by omega, [1, 4, 6, 9, 10, 12, 13, 48, 49, 50], _, .over (r := [.cells false (mvC ⟨1, nm, s, t, f, want, told⟩)]) (tk := st.toks ++ [(told.length, 8)]) (by simp) (by simp) (by simp) (by simp) (by simp) ?_, i + 1, want, told, [askM ⟨1, nm, s, t, f, want, told⟩], by omega, hw, htl, .inr rfl, ?_⟩
      · simp [e1, e4, e6, e9, e12, e13, e48, e49, e50]
      · simp [e1, e4, e6, e9, e12, e13, e48, e49, e50, mss]

    by_cases hv : mayM l[i] = true ∧ l[i].kind = 3
    case neg =>
      have hh : hearM ⟨1, nm, s, t, f, want, told⟩ l[i] = (zMv, [], 0, 2) := by rw [hearM, if_neg (fun h => hv ⟨h.2.1, h.2.2⟩)]
      simp (disch := first | omega | (simp only [List.length_take, List.length_drop, List.length_append, List.length_cons, List.length_nil, List.length_map]; omega)) [IntWalk.i64_in, IntWalk.i64_quo, e1, e4, e6, e9, e12, e13, e48, e49, e50, hx0, hh, hl', hgl]
      first
        | (refine ⟨k - 1, by omega, [1, 4, 6, 9, 10, 12, 13, 48, 49, 50], _, .over (r := [.cells false (mvC ⟨1, nm, s, t, f, want, told⟩)]) (by simp) (List.prefix_refl _) (by simp) (by simp) (by simp) ?_, i + 1, want, told, [], by omega, hw, htl, .inl rfl, ?_⟩ <;> simp [e1, e4, e6, e9, e10, e12, e13, e48, e49, e50] <;> done)
        | (refine ⟨k - 1, by omega, [1, 4, 6, 9, 10, 12, 13, 48, 49, 50], _, .over (r := [.cells false (mvC ⟨1, nm, s, t, f, want, told⟩)]) (by simp) (List.prefix_refl _) (by simp) (by simp) (by simp) ?_, i + 1, want, told, [askM ⟨1, nm, s, t, f, want, told⟩], by omega, hw, htl, .inr rfl, ?_⟩ <;> simp [e1, e4, e6, e9, e10, e12, e13, e48, e49, e50] <;> done)
    obtain ⟨hm, hk3⟩ := hv
    by_cases hmine : l[i].nm = nm ∧ l[i].n = want ∧ l[i].fr = f
    case neg =>
      have hh : hearM ⟨1, nm, s, t, f, want, told⟩ l[i] = (⟨1, nm, s, t, f, want, told⟩, [], 0, 0) := by rw [hearM, if_pos ⟨hc, hm, hk3⟩, if_neg (fun h => hmine h.2)]
      simp (disch := first | omega | (simp only [List.length_take, List.length_drop, List.length_append, List.length_cons, List.length_nil, List.length_map]; omega)) [IntWalk.i64_in, IntWalk.i64_quo, e1, e4, e6, e9, e12, e13, e48, e49, e50, hx0, hh, hl', hgl, nm_beq]
      by_cases hn : l[i].nm = nm
      · by_cases hx2 : l[i].n = want
        · have hf : ¬ l[i].fr = f := fun h => hmine ⟨hn, hx2, h⟩
          simp (disch := first | omega | (simp only [List.length_take, List.length_drop, List.length_append, List.length_cons, List.length_nil, List.length_map]; omega)) [IntWalk.i64_in, IntWalk.i64_quo, e1, e4, e6, e9, e12, e13, e48, e49, e50, hn, hx2, hf, hl', hc, eOf, mss]
          refine ⟨k - 1, by omega, [1, 4, 6, 9, 10, 12, 13, 48, 49, 50], _, .over (r := [.cells false (mvC ⟨1, nm, s, t, f, want, told⟩)]) (tk := st.toks ++ [(told.length, 8)]) (by simp) (by simp) (by simp) (by simp) (by simp) ?_, i + 1, want, told, [], by omega, hw, htl, .inl rfl, ?_⟩
          · simp [e1, e4, e6, e9, e12, e13, e48, e49, e50]
          · simp [e1, e4, e6, e9, e12, e13, e48, e49, e50, mss]

        · simp (disch := first | omega | (simp only [List.length_take, List.length_drop, List.length_append, List.length_cons, List.length_nil, List.length_map]; omega)) [IntWalk.i64_in, IntWalk.i64_quo, e1, e4, e6, e9, e12, e13, e48, e49, e50, hn, hx2, hl', hc, eOf, mss]
          refine ⟨k - 1, by omega, [1, 4, 6, 9, 10, 12, 13, 48, 49, 50], _, .over (r := [.cells false (mvC ⟨1, nm, s, t, f, want, told⟩)]) (tk := st.toks ++ [(told.length, 8)]) (by simp) (by simp) (by simp) (by simp) (by simp) ?_, i + 1, want, told, [], by omega, hw, htl, .inl rfl, ?_⟩
          · simp [e1, e4, e6, e9, e12, e13, e48, e49, e50]
          · simp [e1, e4, e6, e9, e12, e13, e48, e49, e50, mss]

      · simp (disch := first | omega | (simp only [List.length_take, List.length_drop, List.length_append, List.length_cons, List.length_nil, List.length_map]; omega)) [IntWalk.i64_in, IntWalk.i64_quo, e1, e4, e6, e9, e12, e13, e48, e49, e50, hn, hl', hc, eOf, mss]
        refine ⟨k - 1, by omega, [1, 4, 6, 9, 10, 12, 13, 48, 49, 50], _, .over (r := [.cells false (mvC ⟨1, nm, s, t, f, want, told⟩)]) (tk := st.toks ++ [(told.length, 8)]) (by simp) (by simp) (by simp) (by simp) (by simp) ?_, i + 1, want, told, [], by omega, hw, htl, .inl rfl, ?_⟩
        · simp [e1, e4, e6, e9, e12, e13, e48, e49, e50]
        · simp [e1, e4, e6, e9, e12, e13, e48, e49, e50, mss]

    obtain ⟨hn, hx2, hf⟩ := hmine
    by_cases he : l[i].e = 0
    case neg =>
      have hh : hearM ⟨1, nm, s, t, f, want, told⟩ l[i] = (zMv, [], 2, 0) := by rw [hearM, if_pos ⟨hc, hm, hk3⟩, if_pos ⟨rfl, hn, hx2, hf⟩, if_neg he]
      simp (disch := first | omega | (simp only [List.length_take, List.length_drop, List.length_append, List.length_cons, List.length_nil, List.length_map]; omega)) [IntWalk.i64_in, IntWalk.i64_quo, e1, e4, e6, e9, e12, e13, e48, e49, e50, hx0, hh, hl', hgl, nm_beq]
      simp (disch := first | omega | (simp only [List.length_take, List.length_drop, List.length_append, List.length_cons, List.length_nil, List.length_map]; omega)) [IntWalk.i64_in, IntWalk.i64_quo, e1, e4, e6, e9, e12, e13, e48, e49, e50, hn, hx2, hf, he, hz]
    by_cases h3 : told.length = 3
    case pos =>
      have hw4 : want = 4 := by omega
      subst hw4
      have hw44 : within 4 1 4 = true := within_iff.2 (by omega)
      have hh : hearM ⟨1, nm, s, t, f, 4, told⟩ l[i] = (⟨2, nm, s, t, f, 4, told ++ [l[i].val]⟩, [], 1, 0) := by rw [hearM, if_pos ⟨hc, hm, hk3⟩, if_pos ⟨rfl, hn, hx2, hf⟩, if_pos he, if_pos h3]
      have hl2 : (told ++ [l[i].val]).length ≤ 1048576 := by simp; omega
      have hc2 : checkM ⟨2, nm, s, t, f, 4, told ++ [l[i].val]⟩ = true := by simp [checkM, hs, hw44, h3]
      have hw2 : writesM ⟨2, nm, s, t, f, 4, told ++ [l[i].val]⟩ = wsI s (told ++ [l[i].val]) := by rw [writesM, if_pos ⟨hc2, rfl⟩]
      simp (disch := first | omega | (simp only [List.length_take, List.length_drop, List.length_append, List.length_cons, List.length_nil, List.length_map]; omega)) [IntWalk.i64_in, IntWalk.i64_quo, e1, e4, e6, e9, e12, e13, e48, e49, e50, hx0, hh, hl', hgl, nm_beq]
      simp (disch := first | omega | (simp only [List.length_take, List.length_drop, List.length_append, List.length_cons, List.length_nil, List.length_map]; omega)) [IntWalk.i64_in, IntWalk.i64_quo, e1, e4, e6, e9, e12, e13, e48, e49, e50, hn, hx2, hf, he, hl2, hc2, hw2, eOf, h3]
      refine awC_loopW (fun k env s' => ∃ j g gt, k + j = 4 ∧ env 4 = .rptr (.agg [.int .i64 s, .int .i64 t]) ∧ env 13 = .sl (.own st.toks.length) (vls (told ++ [l[i].val])) ∧ env 26 = .sl .any (wrs (wsI s (told ++ [l[i].val]))) ∧ env 215 = .int .i64 4 ∧ env 216 = .int .i64 j ∧ s' = ⟨st.heap ++ g, st.toks ++ gt⟩) 4 ?_ ?_
      · exact ⟨0, _, _, by omega, by simp [e1, e4, e6, e9, e12, e13, e48, e49, e50], by simp [e1, e4, e6, e9, e12, e13, e48, e49, e50], by simp [e1, e4, e6, e9, e12, e13, e48, e49, e50], by simp [e1, e4, e6, e9, e12, e13, e48, e49, e50], by simp [e1, e4, e6, e9, e12, e13, e48, e49, e50], rfl⟩
      rintro k env s' ⟨j, g, gt, hk, f4, f13, f26, f215, f216, rfl⟩
      by_cases hj : j < 4
      · have hj' : (j : Int) < 4 := by omega
        have hjl : j < (told ++ [l[i].val]).length := by simp; omega
        have hwg := wsI_get s (told ++ [l[i].val]) j
        generalize told ++ [l[i].val] = W at *
        rw [List.getElem?_eq_getElem hjl] at hwg
        simp only [Option.map_some, wOf] at hwg
        simp (disch := first | omega | (simp only [List.length_take, List.length_drop, List.length_append, List.length_cons, List.length_nil, List.length_map]; omega)) [IntWalk.i64_in, IntWalk.i64_quo, f4, f13, f26, f215, f216, hj', hjl, hwg]
        refine region_static rfl (by decide +kernel) ?_
        simp (disch := first | omega | (simp only [List.length_take, List.length_drop, List.length_append, List.length_cons, List.length_nil, List.length_map]; omega)) [IntWalk.i64_in, IntWalk.i64_quo, f4, f13, f26, f215, f216, hj', hjl, hwg]
        exact ⟨k - 1, by omega, j + 1, by omega, by omega⟩
      · have hj' : ¬ (j : Int) < 4 := by omega
        simp (disch := first | omega | (simp only [List.length_take, List.length_drop, List.length_append, List.length_cons, List.length_nil, List.length_map]; omega)) [IntWalk.i64_in, IntWalk.i64_quo, f4, f13, f26, f215, f216, hj']
    have hh : hearM ⟨1, nm, s, t, f, want, told⟩ l[i] = (⟨1, nm, s, t, f, want + 1, told ++ [l[i].val]⟩, [askM ⟨1, nm, s, t, f, want + 1, told ++ [l[i].val]⟩], 0, 0) := by rw [hearM, if_pos ⟨hc, hm, hk3⟩, if_pos ⟨rfl, hn, hx2, hf⟩, if_pos he, if_neg h3]
    have hl2 : (told ++ [l[i].val]).length ≤ 1048576 := by simp; omega
    have hc2 : checkM ⟨1, nm, s, t, f, want + 1, told ++ [l[i].val]⟩ = true := by
      have := within_iff.2 (show 1 ≤ want + 1 ∧ want + 1 ≤ 4 by omega)
      simp [checkM, hs, this]
      omega
    have hw4 : ¬ 4 < want + 1 := by omega
    have htn : told.length ≤ 2147483646 := by omega
    simp (disch := first | omega | (simp only [List.length_take, List.length_drop, List.length_append, List.length_cons, List.length_nil, List.length_map]; omega)) [IntWalk.i64_in, IntWalk.i64_quo, e1, e4, e6, e9, e12, e13, e48, e49, e50, hx0, hh, hl', hgl, nm_beq]
    simp (disch := first | omega | (simp only [List.length_take, List.length_drop, List.length_append, List.length_cons, List.length_nil, List.length_map]; omega)) [IntWalk.i64_in, IntWalk.i64_quo, e1, e4, e6, e9, e12, e13, e48, e49, e50, hn, hx2, hf, he, hl2, hc2, eOf, hw4, htn]
    refine ⟨by omega, k - 1, by omega, [1, 4, 6, 9, 10, 12, 13, 48, 49, 50], _, .over (r := [.cells false (mvC ⟨1, nm, s, t, f, want + 1, told ++ [l[i].val]⟩)]) (tk := st.toks ++ [(told.length + 1, 8)]) (by simp) (by simp) (by simp) (by simp) (by simp) ?_, i + 1, want + 1, told ++ [l[i].val], [askM ⟨1, nm, s, t, f, want + 1, told ++ [l[i].val]⟩], by omega, by omega, by simp; omega, .inr rfl, ?_⟩
    · simp [e1, e4, e6, e9, e12, e13, e48, e49, e50]
    · simp [e1, e4, e6, e9, e12, e13, e48, e49, e50, mss]

end Go.Proofs.Ytjceilhmgbdgiaa

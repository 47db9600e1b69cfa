/- Epochs: what is known never falls. -/
import Derived.Test.YtbmcgfdopaaiiaaZQ
set_option linter.all false
namespace Go.Proofs.Ytbmcgfdopaaiiaa
open Go.Am

def msA (m : Ms) : AV := .agg (msC m)
def mss (l : List Ms) : List AV := l.map msA
@[simp] theorem mss_length (l : List Ms) : (mss l).length = l.length := by simp [mss]
@[simp] theorem mss_get (l : List Ms) (i : Nat) : (mss l)[i]? = l[i]?.map msA := by simp [mss]
@[simp] theorem mss_allSz (l : List Ms) : allSz 24 (mss l) = true := allSz_map _ _ _ fun _ => rfl
/-- What hearing makes of what is known, in plain facts. -/
theorem hear_facts {k o : Kn} {m : Ms} {N : Int} (h : hearR k m = (o, N, 0)) :
    mayK k = true ∧ (0 ≤ m.fr ∧ m.fr ≤ 4) ∧ o.inc = k.inc ∧ o.node = k.node ∧ (N = 0 → o = k) ∧ (N = 3 ↔ 0 < getK k m.fr ∧ getK k m.fr < m.inc ∧ 0 < N) ∧
    ∀ i, 0 ≤ i ∧ i ≤ 4 → ¬ getK o i < getK k i ∧ (getK o i = getK k i ∨ i = m.fr ∧ getK o i = m.inc ∧ 2 ≤ N) := by
  by_cases hc : mayK k = true ∧ mayM m = true ∧ m.to = k.node
  case neg => rw [hearR, if_neg hc] at h; simp at h
  obtain ⟨hk, hm, ht⟩ := hc
  have hd := head_facts (mayM_head hm)
  obtain ⟨_, _, hf⟩ := mayK_facts hk
  have hw := hf m.fr
  by_cases ho : m.inc < getK k m.fr ∨ m.your ≠ 0 ∧ m.your ≠ k.inc
  · rw [hear_old hk hm ht ho] at h
    simp only [Prod.mk.injEq] at h
    obtain ⟨rfl, rfl, -⟩ := h
    exact ⟨hk, by omega, rfl, rfl, fun _ => rfl, by omega, fun i _ => ⟨by omega, .inl rfl⟩⟩
  by_cases hs : m.inc = getK k m.fr
  · rw [hear_same hk hm ht ho hs] at h
    simp only [Prod.mk.injEq] at h
    obtain ⟨rfl, rfl, -⟩ := h
    exact ⟨hk, by omega, rfl, rfl, fun _ => rfl, by omega, fun i _ => ⟨by omega, .inl rfl⟩⟩
  · rw [hear_new hk hm ht ho hs] at h
    simp only [Prod.mk.injEq] at h
    obtain ⟨rfl, hN, -⟩ := h
    have hN2 : 2 ≤ N := by rw [← hN]; split <;> decide
    have hnode : (setK k m.fr m.inc).node = k.node ∧ (setK k m.fr m.inc).inc = k.inc := by
      unfold setK
      repeat' split
      all_goals exact ⟨rfl, rfl⟩
    refine ⟨hk, by omega, hnode.2, hnode.1, by omega, ?_, fun i hi => ?_⟩
    · by_cases h0 : getK k m.fr = 0
      · rw [if_pos h0] at hN; omega
      · rw [if_neg h0] at hN; omega
    · by_cases hif : i = m.fr
      · subst hif
        rw [getK_set k m.fr m.inc hi]
        exact ⟨by omega, .inr ⟨rfl, rfl, hN2⟩⟩
      · have : getK (setK k m.fr m.inc) i = getK k i := by
          have hfr : m.fr = 0 ∨ m.fr = 1 ∨ m.fr = 2 ∨ m.fr = 3 ∨ m.fr = 4 := by omega
          obtain h1 | h1 | h1 | h1 | h1 : i = 0 ∨ i = 1 ∨ i = 2 ∨ i = 3 ∨ i = 4 := by omega
          all_goals
            rcases hfr with h2 | h2 | h2 | h2 | h2
            all_goals
              rw [h1, h2]
              first
                | rfl
                | (exfalso; omega)
        rw [this]
        exact ⟨by omega, .inl rfl⟩
theorem kn_get7n (nd ic a0 a1 a2 a3 a4 : Int) (p : Nat) (h : ([.int .i64 nd, .int .i64 ic, .int .i64 a0, .int .i64 a1, .int .i64 a2, .int .i64 a3, .int .i64 a4] : List AV).length > 2 + p) : ([.int .i64 nd, .int .i64 ic, .int .i64 a0, .int .i64 a1, .int .i64 a2, .int .i64 a3, .int .i64 a4] : List AV)[2 + p]'h = .int .i64 (getO a0 a1 a2 a3 a4 p) := by
  have := kn_load7 nd ic a0 a1 a2 a3 a4 p (by simp at h; omega)
  exact (List.getElem?_eq_some_iff.1 this).2
def RI (l : List Ms) (st : St) (j : Nat) (env : Env) (s : St) : Prop :=
  ∃ i k g, j + i = l.length ∧ env 2 = .ptr st.heap.length 0 ∧ env 20 = .sl .any (mss l) ∧ env 21 = .int .i64 l.length ∧ env 22 = .int .i64 i ∧ s = ⟨st.heap ++ (kB' k :: g), st.toks⟩
def RJ (st : St) (n i : Nat) (k o : Kn) (m : Ms) (N : Int) (g : List Blk) (l : List Ms) (j : Nat) (env : Env) (s : St) : Prop :=
  ∃ p : Nat, j + p = 5 ∧ env 2 = .ptr st.heap.length 0 ∧ env 6 = .ptr (st.heap.length + (g.length + 1)) 0 ∧ env 7 = .ptr (st.heap.length + (g.length + 2)) 0 ∧ env 8 = .int .i8 N ∧ env 20 = .sl .any (mss l) ∧ env 21 = .int .i64 n ∧ env 22 = .int .i64 i ∧ env 38 = .int .i64 p ∧
    s = ⟨st.heap ++ (kB' k :: (g ++ [mB m, kB' o])), st.toks⟩
theorem lrises_spec (k : Kn) (l : List Ms) (st : St) : ASpec Try.prog 3 [.agg (knC k), .sl .any (mss l)] st fun v st' => v = .bool true ∧ st' = st := by
  refine pure_of (R := fun v => v = _) C10s F3 rfl ?_
  by_cases hl : 100 < l.length
  · have hl' : (100 : Int) < l.length := by omega
    simp (disch := first | omega | (simp only [List.length_take, List.length_drop, List.length_append, List.length_cons, List.length_nil, List.length_map]; omega)) [IntWalk.i64_in, IntWalk.i64_quo, c3, hl']
  have hl' : ¬ (100 : Int) < l.length := by omega
  cases hk : mayK k
  · simp (disch := first | omega | (simp only [List.length_take, List.length_drop, List.length_append, List.length_cons, List.length_nil, List.length_map]; omega)) [IntWalk.i64_in, IntWalk.i64_quo, c3, hl', hk]
  simp (disch := first | omega | (simp only [List.length_take, List.length_drop, List.length_append, List.length_cons, List.length_nil, List.length_map]; omega)) [IntWalk.i64_in, IntWalk.i64_quo, c3, hl', hk]
  refine awC_loopW (RI l st) l.length ?_ ?_
  · exact ⟨0, k, [], by simp [kB']⟩
  clear hk
  rintro j env s ⟨i, k, g, hj, e2, e20, e21, e22, rfl⟩
  have hK : ∀ k, kB' k = .cells false (knC k) := fun _ => rfl
  by_cases hi : i < l.length
  · have hi' : (i : Int) < l.length := by omega
    obtain ⟨m, hm⟩ : ∃ m, l[i] = m := ⟨_, rfl⟩
    by_cases hg : 40 < m.ws.length
    · simp (disch := first | omega | (simp only [List.length_take, List.length_drop, List.length_append, List.length_cons, List.length_nil, List.length_map]; omega)) [IntWalk.i64_in, IntWalk.i64_quo, e2, e20, e21, e22, hi', hi, hm, msA, hg, hK]
    have hml : m.ws.length ≤ 1048576 := by omega
    obtain ⟨⟨o, N, E⟩, hR⟩ : ∃ q, hearR k m = q := ⟨_, rfl⟩
    by_cases hE : E = 0
    · subst hE
      simp (disch := first | omega | (simp only [List.length_take, List.length_drop, List.length_append, List.length_cons, List.length_nil, List.length_map]; omega)) [IntWalk.i64_in, IntWalk.i64_quo, e2, e20, e21, e22, hi', hi, hm, msA, hg, hK, hR, hml]
      obtain ⟨hk, hfr, f1, f2, f3, f4, f5⟩ := hear_facts hR
      clear hR
      refine awC_loopW (RJ st (l.length) i k o m N g l) 5 ?_ ?_
      · exact ⟨0, by omega, by simp [e2], by simp, by simp, by simp, by simp [e20], by simp [e21], by simp [e22], by simp, by simp [hK, mB]⟩
      clear e2 e20 e21 e22
      rintro j2 env s ⟨p, hp, e2, e6, e7, e8, e20, e21, e22, e38, rfl⟩
      by_cases hp5 : p < 5
      · have hp5' : (p : Int) < 5 := by omega
        obtain ⟨c1, c2⟩ := f5 p (by omega)
        rw [getK_O, getK_O] at c1 c2
        simp (disch := first | omega | (simp only [List.length_take, List.length_drop, List.length_append, List.length_cons, List.length_nil, List.length_map]; omega)) [IntWalk.i64_in, IntWalk.i64_quo, e2, e6, e7, e8, e20, e21, e22, e38, hp5', mB, hK]
        refine region_static rfl (by decide +kernel) ?_
        obtain ⟨x, hx⟩ : ∃ x, getO o.o0 o.o1 o.o2 o.o3 o.o4 p = x := ⟨_, rfl⟩
        obtain ⟨y, hy⟩ : ∃ y, getO k.o0 k.o1 k.o2 k.o3 k.o4 p = y := ⟨_, rfl⟩
        rw [hx, hy] at c1 c2
        by_cases hxy : x = y
        · subst hxy
          simp (disch := first | omega | (simp only [List.length_take, List.length_drop, List.length_append, List.length_cons, List.length_nil, List.length_map]; omega)) [IntWalk.i64_in, IntWalk.i64_quo, e2, e6, e7, e8, e20, e21, e22, e38, hp5, hp5', kn_get7n, hx, hy]
          refine ⟨j2 - 1, by omega, p + 1, by omega, by simp [e2], by simp [e6], by simp [e7], by simp [e8], by simp [e20], by simp [e21], by simp [e22], by simp, by simp [mB, kB']⟩
        · obtain ⟨hpf, hxi, hN2⟩ := c2.resolve_left hxy
          have hN2' : ¬ N < 2 := by omega
          have hpf' := hpf.symm
          have hxi' := hxi.symm
          clear hpf hxi
          simp (disch := first | omega | (simp only [List.length_take, List.length_drop, List.length_append, List.length_cons, List.length_nil, List.length_map]; omega)) [IntWalk.i64_in, IntWalk.i64_quo, e2, e6, e7, e8, e20, e21, e22, e38, hp5, hp5', kn_get7n, hx, hy, hxy, hpf', hxi', hN2', c1]
          refine ⟨j2 - 1, by omega, p + 1, by omega, by simp [e2], by simp [e6], by simp [e7], by simp [e8], by simp [e20], by simp [e21], by simp [e22], by simp, by simp [mB, kB', hpf', hxi']⟩
      · have hp5' : ¬ (p : Int) < 5 := by omega
        clear f5
        have hw1 := (mayK_facts hk).2.2 m.fr
        rw [getK_O] at f4 hw1
        obtain ⟨w, hw⟩ : ∃ w, getO k.o0 k.o1 k.o2 k.o3 k.o4 m.fr = w := ⟨_, rfl⟩
        rw [hw] at f4 hw1
        have g1 : 0 ≤ m.fr := hfr.1
        have g2 : m.fr < 5 := by omega
        simp (disch := first | omega | (simp only [List.length_take, List.length_drop, List.length_append, List.length_cons, List.length_nil, List.length_map]; omega)) [IntWalk.i64_in, IntWalk.i64_quo, e2, e6, e7, e8, e20, e21, e22, e38, hp5', mB, hK]
        refine region_static rfl (by decide +kernel) ?_
        by_cases hN0 : N = 0
        · rw [f3 hN0]
          subst hN0
          simp (disch := first | omega | (simp only [List.length_take, List.length_drop, List.length_append, List.length_cons, List.length_nil, List.length_map]; omega)) [IntWalk.i64_in, IntWalk.i64_quo, e2, e6, e7, e8, e20, e21, e22, e38, hp5', g1, g2, kn_get7, hw]
          repeat' first
            | (refine region_static rfl (by decide +kernel) ?_; try simp (disch := first | omega | (simp only [List.length_take, List.length_drop, List.length_append, List.length_cons, List.length_nil, List.length_map]; omega)) [IntWalk.i64_in, IntWalk.i64_quo, e2, e6, e7, e8, e20, e21, e22, e38, hp5', g1, g2, kn_get7, hw])
            | (refine And.intro (by omega) ?_; try simp (disch := first | omega | (simp only [List.length_take, List.length_drop, List.length_append, List.length_cons, List.length_nil, List.length_map]; omega)) [IntWalk.i64_in, IntWalk.i64_quo, e2, e6, e7, e8, e20, e21, e22, e38, hp5', g1, g2, kn_get7, hw])
            | (refine guardK_ndec (fun h => ?_) (fun h => ?_) <;> (try simp (disch := first | omega | (simp only [List.length_take, List.length_drop, List.length_append, List.length_cons, List.length_nil, List.length_map]; omega)) [h, IntWalk.i64_in, IntWalk.i64_quo, e2, e6, e7, e8, e20, e21, e22, e38, hp5', g1, g2, kn_get7, hw]))
            | (refine guardK_dec (fun h => ?_) (fun h => ?_) <;> (try simp (disch := first | omega | (simp only [List.length_take, List.length_drop, List.length_append, List.length_cons, List.length_nil, List.length_map]; omega)) [h, IntWalk.i64_in, IntWalk.i64_quo, e2, e6, e7, e8, e20, e21, e22, e38, hp5', g1, g2, kn_get7, hw]))
            | (refine guardK_nbeq (fun h => ?_) (fun h => ?_) <;> (try simp (disch := first | omega | (simp only [List.length_take, List.length_drop, List.length_append, List.length_cons, List.length_nil, List.length_map]; omega)) [h, IntWalk.i64_in, IntWalk.i64_quo, e2, e6, e7, e8, e20, e21, e22, e38, hp5', g1, g2, kn_get7, hw]))
            | (refine guardK_beq (fun h => ?_) (fun h => ?_) <;> (try simp (disch := first | omega | (simp only [List.length_take, List.length_drop, List.length_append, List.length_cons, List.length_nil, List.length_map]; omega)) [h, IntWalk.i64_in, IntWalk.i64_quo, e2, e6, e7, e8, e20, e21, e22, e38, hp5', g1, g2, kn_get7, hw]))
            | (refine guardK_bne (fun h => ?_) (fun h => ?_) <;> (try simp (disch := first | omega | (simp only [List.length_take, List.length_drop, List.length_append, List.length_cons, List.length_nil, List.length_map]; omega)) [h, IntWalk.i64_in, IntWalk.i64_quo, e2, e6, e7, e8, e20, e21, e22, e38, hp5', g1, g2, kn_get7, hw]))
            | (refine guardK_not (fun h => ?_) (fun h => ?_) <;> (try simp (disch := first | omega | (simp only [List.length_take, List.length_drop, List.length_append, List.length_cons, List.length_nil, List.length_map]; omega)) [h, IntWalk.i64_in, IntWalk.i64_quo, e2, e6, e7, e8, e20, e21, e22, e38, hp5', g1, g2, kn_get7, hw]))
            | (refine guardK_split (fun h => ?_) (fun h => ?_) <;> (try simp (disch := first | omega | (simp only [List.length_take, List.length_drop, List.length_append, List.length_cons, List.length_nil, List.length_map]; omega)) [h, IntWalk.i64_in, IntWalk.i64_quo, e2, e6, e7, e8, e20, e21, e22, e38, hp5', g1, g2, kn_get7, hw]))
            | (refine condK_ndec (fun h => ?_) (fun h => ?_) <;> (try simp (disch := first | omega | (simp only [List.length_take, List.length_drop, List.length_append, List.length_cons, List.length_nil, List.length_map]; omega)) [h, IntWalk.i64_in, IntWalk.i64_quo, e2, e6, e7, e8, e20, e21, e22, e38, hp5', g1, g2, kn_get7, hw]))
            | (refine condK_dec (fun h => ?_) (fun h => ?_) <;> (try simp (disch := first | omega | (simp only [List.length_take, List.length_drop, List.length_append, List.length_cons, List.length_nil, List.length_map]; omega)) [h, IntWalk.i64_in, IntWalk.i64_quo, e2, e6, e7, e8, e20, e21, e22, e38, hp5', g1, g2, kn_get7, hw]))
            | (refine condK_nbeq (fun h => ?_) (fun h => ?_) <;> (try simp (disch := first | omega | (simp only [List.length_take, List.length_drop, List.length_append, List.length_cons, List.length_nil, List.length_map]; omega)) [h, IntWalk.i64_in, IntWalk.i64_quo, e2, e6, e7, e8, e20, e21, e22, e38, hp5', g1, g2, kn_get7, hw]))
            | (refine condK_beq (fun h => ?_) (fun h => ?_) <;> (try simp (disch := first | omega | (simp only [List.length_take, List.length_drop, List.length_append, List.length_cons, List.length_nil, List.length_map]; omega)) [h, IntWalk.i64_in, IntWalk.i64_quo, e2, e6, e7, e8, e20, e21, e22, e38, hp5', g1, g2, kn_get7, hw]))
            | (refine condK_bne (fun h => ?_) (fun h => ?_) <;> (try simp (disch := first | omega | (simp only [List.length_take, List.length_drop, List.length_append, List.length_cons, List.length_nil, List.length_map]; omega)) [h, IntWalk.i64_in, IntWalk.i64_quo, e2, e6, e7, e8, e20, e21, e22, e38, hp5', g1, g2, kn_get7, hw]))
            | (refine condK_not (fun h => ?_) (fun h => ?_) <;> (try simp (disch := first | omega | (simp only [List.length_take, List.length_drop, List.length_append, List.length_cons, List.length_nil, List.length_map]; omega)) [h, IntWalk.i64_in, IntWalk.i64_quo, e2, e6, e7, e8, e20, e21, e22, e38, hp5', g1, g2, kn_get7, hw]))
            | (refine condK_split (fun h => ?_) (fun h => ?_) <;> (try simp (disch := first | omega | (simp only [List.length_take, List.length_drop, List.length_append, List.length_cons, List.length_nil, List.length_map]; omega)) [h, IntWalk.i64_in, IntWalk.i64_quo, e2, e6, e7, e8, e20, e21, e22, e38, hp5', g1, g2, kn_get7, hw]))
          all_goals first
            | (exfalso; omega)
            | exact ⟨j - 1, by omega, i + 1, k, g ++ [mB m, kB' k], by omega, by simp [e2], by simp [e20], by simp [e21], by simp [e22], by simp [mB, kB']⟩
        · simp (disch := first | omega | (simp only [List.length_take, List.length_drop, List.length_append, List.length_cons, List.length_nil, List.length_map]; omega)) [IntWalk.i64_in, IntWalk.i64_quo, e2, e6, e7, e8, e20, e21, e22, e38, hp5', f1, f2, g1, g2, kn_get7, hw, hN0]
          repeat' first
            | (refine region_static rfl (by decide +kernel) ?_; try simp (disch := first | omega | (simp only [List.length_take, List.length_drop, List.length_append, List.length_cons, List.length_nil, List.length_map]; omega)) [IntWalk.i64_in, IntWalk.i64_quo, e2, e6, e7, e8, e20, e21, e22, e38, hp5', f1, f2, g1, g2, kn_get7, hw, hN0])
            | (refine And.intro (by omega) ?_; try simp (disch := first | omega | (simp only [List.length_take, List.length_drop, List.length_append, List.length_cons, List.length_nil, List.length_map]; omega)) [IntWalk.i64_in, IntWalk.i64_quo, e2, e6, e7, e8, e20, e21, e22, e38, hp5', f1, f2, g1, g2, kn_get7, hw, hN0])
            | (refine guardK_ndec (fun h => ?_) (fun h => ?_) <;> (try simp (disch := first | omega | (simp only [List.length_take, List.length_drop, List.length_append, List.length_cons, List.length_nil, List.length_map]; omega)) [h, IntWalk.i64_in, IntWalk.i64_quo, e2, e6, e7, e8, e20, e21, e22, e38, hp5', f1, f2, g1, g2, kn_get7, hw, hN0]))
            | (refine guardK_dec (fun h => ?_) (fun h => ?_) <;> (try simp (disch := first | omega | (simp only [List.length_take, List.length_drop, List.length_append, List.length_cons, List.length_nil, List.length_map]; omega)) [h, IntWalk.i64_in, IntWalk.i64_quo, e2, e6, e7, e8, e20, e21, e22, e38, hp5', f1, f2, g1, g2, kn_get7, hw, hN0]))
            | (refine guardK_nbeq (fun h => ?_) (fun h => ?_) <;> (try simp (disch := first | omega | (simp only [List.length_take, List.length_drop, List.length_append, List.length_cons, List.length_nil, List.length_map]; omega)) [h, IntWalk.i64_in, IntWalk.i64_quo, e2, e6, e7, e8, e20, e21, e22, e38, hp5', f1, f2, g1, g2, kn_get7, hw, hN0]))
            | (refine guardK_beq (fun h => ?_) (fun h => ?_) <;> (try simp (disch := first | omega | (simp only [List.length_take, List.length_drop, List.length_append, List.length_cons, List.length_nil, List.length_map]; omega)) [h, IntWalk.i64_in, IntWalk.i64_quo, e2, e6, e7, e8, e20, e21, e22, e38, hp5', f1, f2, g1, g2, kn_get7, hw, hN0]))
            | (refine guardK_bne (fun h => ?_) (fun h => ?_) <;> (try simp (disch := first | omega | (simp only [List.length_take, List.length_drop, List.length_append, List.length_cons, List.length_nil, List.length_map]; omega)) [h, IntWalk.i64_in, IntWalk.i64_quo, e2, e6, e7, e8, e20, e21, e22, e38, hp5', f1, f2, g1, g2, kn_get7, hw, hN0]))
            | (refine guardK_not (fun h => ?_) (fun h => ?_) <;> (try simp (disch := first | omega | (simp only [List.length_take, List.length_drop, List.length_append, List.length_cons, List.length_nil, List.length_map]; omega)) [h, IntWalk.i64_in, IntWalk.i64_quo, e2, e6, e7, e8, e20, e21, e22, e38, hp5', f1, f2, g1, g2, kn_get7, hw, hN0]))
            | (refine guardK_split (fun h => ?_) (fun h => ?_) <;> (try simp (disch := first | omega | (simp only [List.length_take, List.length_drop, List.length_append, List.length_cons, List.length_nil, List.length_map]; omega)) [h, IntWalk.i64_in, IntWalk.i64_quo, e2, e6, e7, e8, e20, e21, e22, e38, hp5', f1, f2, g1, g2, kn_get7, hw, hN0]))
            | (refine condK_ndec (fun h => ?_) (fun h => ?_) <;> (try simp (disch := first | omega | (simp only [List.length_take, List.length_drop, List.length_append, List.length_cons, List.length_nil, List.length_map]; omega)) [h, IntWalk.i64_in, IntWalk.i64_quo, e2, e6, e7, e8, e20, e21, e22, e38, hp5', f1, f2, g1, g2, kn_get7, hw, hN0]))
            | (refine condK_dec (fun h => ?_) (fun h => ?_) <;> (try simp (disch := first | omega | (simp only [List.length_take, List.length_drop, List.length_append, List.length_cons, List.length_nil, List.length_map]; omega)) [h, IntWalk.i64_in, IntWalk.i64_quo, e2, e6, e7, e8, e20, e21, e22, e38, hp5', f1, f2, g1, g2, kn_get7, hw, hN0]))
            | (refine condK_nbeq (fun h => ?_) (fun h => ?_) <;> (try simp (disch := first | omega | (simp only [List.length_take, List.length_drop, List.length_append, List.length_cons, List.length_nil, List.length_map]; omega)) [h, IntWalk.i64_in, IntWalk.i64_quo, e2, e6, e7, e8, e20, e21, e22, e38, hp5', f1, f2, g1, g2, kn_get7, hw, hN0]))
            | (refine condK_beq (fun h => ?_) (fun h => ?_) <;> (try simp (disch := first | omega | (simp only [List.length_take, List.length_drop, List.length_append, List.length_cons, List.length_nil, List.length_map]; omega)) [h, IntWalk.i64_in, IntWalk.i64_quo, e2, e6, e7, e8, e20, e21, e22, e38, hp5', f1, f2, g1, g2, kn_get7, hw, hN0]))
            | (refine condK_bne (fun h => ?_) (fun h => ?_) <;> (try simp (disch := first | omega | (simp only [List.length_take, List.length_drop, List.length_append, List.length_cons, List.length_nil, List.length_map]; omega)) [h, IntWalk.i64_in, IntWalk.i64_quo, e2, e6, e7, e8, e20, e21, e22, e38, hp5', f1, f2, g1, g2, kn_get7, hw, hN0]))
            | (refine condK_not (fun h => ?_) (fun h => ?_) <;> (try simp (disch := first | omega | (simp only [List.length_take, List.length_drop, List.length_append, List.length_cons, List.length_nil, List.length_map]; omega)) [h, IntWalk.i64_in, IntWalk.i64_quo, e2, e6, e7, e8, e20, e21, e22, e38, hp5', f1, f2, g1, g2, kn_get7, hw, hN0]))
            | (refine condK_split (fun h => ?_) (fun h => ?_) <;> (try simp (disch := first | omega | (simp only [List.length_take, List.length_drop, List.length_append, List.length_cons, List.length_nil, List.length_map]; omega)) [h, IntWalk.i64_in, IntWalk.i64_quo, e2, e6, e7, e8, e20, e21, e22, e38, hp5', f1, f2, g1, g2, kn_get7, hw, hN0]))
          all_goals first
            | (exfalso; omega)
            | exact ⟨j - 1, by omega, i + 1, o, g ++ [mB m, kB' o], by omega, by simp [e2], by simp [e20], by simp [e21], by simp [e22], by simp [mB, kB', f1, f2]⟩
            | (rename_i h; exact h (decide_eq_decide.2 (by omega)))
    · simp (disch := first | omega | (simp only [List.length_take, List.length_drop, List.length_append, List.length_cons, List.length_nil, List.length_map]; omega)) [IntWalk.i64_in, IntWalk.i64_quo, e2, e20, e21, e22, hi', hi, hm, msA, hg, hK, hR, hE, hml]
      refine ⟨j - 1, by omega, i + 1, k, g ++ [mB m, kB' o], by omega, by simp [e2], by simp [e20], by simp [e21], by simp [e22], by simp [mB, kB']⟩
  · have hi' : ¬ (i : Int) < l.length := by omega
    simp (disch := first | omega | (simp only [List.length_take, List.length_drop, List.length_append, List.length_cons, List.length_nil, List.length_map]; omega)) [IntWalk.i64_in, IntWalk.i64_quo, e2, e20, e21, e22, hi']
end Go.Proofs.Ytbmcgfdopaaiiaa

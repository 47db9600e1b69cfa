/- AgeOrder. -/
import Derived.Test.YthfjkapkjidebaaZD
import Derived.Test.YthfjkapkjidebaaZAmRead
import Derived.KernelRfl
set_option linter.all false
namespace Go.Proofs.Ythfjkapkjidebaa
open Go.Am

abbrev KD (st : St) : Exit → Env → St → Prop := DoneP st [RV.tmp 8] fun v => v = AV.bool true
theorem old_facts (l : List Nm) : ((oldN l).2 = decide (0 < l.length)) ∧ ∀ x ∈ l, (oldN l).1.stamp ≤ x.stamp := by
  have key : ∀ (l : List Nm) (q : Nm × Bool), ((l.foldl keepN q).2 = (q.2 || decide (0 < l.length))) ∧ (∀ x ∈ l, (l.foldl keepN q).1.stamp ≤ x.stamp) ∧ (q.2 = true → (l.foldl keepN q).1.stamp ≤ q.1.stamp) := by
    intro l
    induction l with
    | nil => intro q; simp
    | cons x l ih =>
      intro q
      obtain ⟨h1, h2, h3⟩ := ih (keepN q x)
      have hk : (keepN q x).2 = true := by
        unfold keepN
        split
        · rfl
        · rename_i h
          cases hq : q.2 with
          | true => rfl
          | false => exact absurd (.inl hq) h
      have hx : (keepN q x).1.stamp ≤ x.stamp := by
        unfold keepN
        split
        · exact Int.le_refl _
        · rename_i h
          have : ¬ lessN x q.1 = true := fun hh => h (.inr hh)
          rw [lessN_iff] at this
          omega
      have hq : q.2 = true → (keepN q x).1.stamp ≤ q.1.stamp := by
        intro h
        unfold keepN
        split
        · rename_i hh
          rcases hh with hh | hh
          · rw [hh] at h; cases h
          · rw [lessN_iff] at hh
            simp only
            omega
        · exact Int.le_refl _
      rw [List.foldl_cons]
      refine ⟨by rw [h1, hk]; simp, fun y hy => ?_, fun h => Int.le_trans (h3 hk) (hq h)⟩
      rcases List.mem_cons.1 hy with rfl | hy
      · exact Int.le_trans (h3 hk) hx
      · exact h2 y hy
  obtain ⟨h1, h2, _⟩ := key l (⟨0, 0, 0⟩, false)
  exact ⟨h1.trans (by simp), h2⟩

section
variable {l : List Nm} {st : St}
theorem e12 {env : Env} {g : List Blk} {gt : List (Nat × Nat)} {s : List Nm} (h3 : env 3 = .sl .any (nms l)) (h15 : env 15 = .sl .any (nms s)) (hs : s.length ≤ l.length) : awC (orc Try.prog B7) c3r12 env ⟨st.heap ++ g, st.toks ++ gt⟩ (KD st) := by
  have hs' : (s.length : Int) ≤ l.length := by omega
  simp (disch := first | omega | (simp only [List.length_take, List.length_drop, List.length_append, List.length_cons, List.length_nil, List.length_map]; omega)) [IntWalk.i64_in, IntWalk.i64_quo, c3r12, c3p12, c3r13, c3p13, h3, h15, hs']
theorem e11 (hl : l.length ≤ 200) {env : Env} {g : List Blk} {gt : List (Nat × Nat)} {s : List Nm} (h3 : env 3 = .sl .any (nms l)) (h15 : env 15 = .sl .any (nms s)) (hs : s.length ≤ l.length) (hc : ∀ x ∈ l, s.count x = 1) : awC (orc Try.prog B7) c3r11 env ⟨st.heap ++ g, st.toks ++ gt⟩ (KD st) := by
  simp (disch := first | omega | (simp only [List.length_take, List.length_drop, List.length_append, List.length_cons, List.length_nil, List.length_map]; omega)) [IntWalk.i64_in, IntWalk.i64_quo, c3r11, c3p11]
  refine awC_loopW (fun k env s' => ∃ i g gt, k + i = l.length ∧ env 3 = .sl .any (nms l) ∧ env 15 = .sl .any (nms s) ∧ env 17 = .int .i64 i ∧ s' = ⟨st.heap ++ g, st.toks ++ gt⟩) l.length ?_ ?_
  · exact ⟨0, _, _, by omega, by simp [h3], by simp [h15], by simp, rfl⟩
  rintro k env s' ⟨i, g, gt, hk, h3, h15, h17, rfl⟩
  by_cases hi : i < l.length
  case neg =>
    have hi' : ¬ (i : Int) < l.length := by omega
    simp (disch := first | omega | (simp only [List.length_take, List.length_drop, List.length_append, List.length_cons, List.length_nil, List.length_map]; omega)) [IntWalk.i64_in, IntWalk.i64_quo, h3, h15, h17, hi']
    exact e12 (by simp [h3]) (by simp [h15]) hs
  have hi' : (i : Int) < l.length := by omega
  simp (disch := first | omega | (simp only [List.length_take, List.length_drop, List.length_append, List.length_cons, List.length_nil, List.length_map]; omega)) [IntWalk.i64_in, IntWalk.i64_quo, h3, h15, h17, hi, hi']
  refine awC_loopW (fun j env s' => ∃ m g gt, j + m = s.length ∧ env 3 = .sl .any (nms l) ∧ env 15 = .sl .any (nms s) ∧ env 17 = .int .i64 i ∧ env 18 = .int .i64 ((s.take m).count l[i]) ∧ env 19 = .int .i64 m ∧ s' = ⟨st.heap ++ g, st.toks ++ gt⟩) s.length ?_ ?_
  · exact ⟨0, _, _, by omega, by simp [h3], by simp [h15], by simp [h17], by simp, by simp, rfl⟩
  rintro j env s' ⟨m, g, gt, hj, f3, f15, f17, f18, f19, rfl⟩
  by_cases hm : m < s.length
  case neg =>
    have hm' : ¬ (m : Int) < s.length := by omega
    have h1 : (s.take m).count l[i] = 1 := by rw [List.take_of_length_le (by omega)]; exact hc _ (List.getElem_mem hi)
    rw [h1] at f18
    simp (disch := first | omega | (simp only [List.length_take, List.length_drop, List.length_append, List.length_cons, List.length_nil, List.length_map]; omega)) [IntWalk.i64_in, IntWalk.i64_quo, f3, f15, f17, f18, f19, hm']
    exact ⟨k - 1, by omega, i + 1, by omega, by omega⟩
  have hm' : (m : Int) < s.length := by omega
  have hst : (s.take (m + 1)).count l[i] = (s.take m).count l[i] + if l[i] = s[m] then 1 else 0 := by
    rw [List.take_succ_eq_append_getElem hm, List.count_append, List.count_cons, List.count_nil]
    by_cases e : l[i] = s[m]
    · simp [e]
    · have : ¬ s[m] = l[i] := fun h => e h.symm
      simp [e, this]
  have hcl : (s.take m).count l[i] ≤ (s.take m).length := List.count_le_length
  rw [List.length_take] at hcl
  by_cases e : s[m] = l[i]
  · simp (disch := first | omega | (simp only [List.length_take, List.length_drop, List.length_append, List.length_cons, List.length_nil, List.length_map]; omega)) [IntWalk.i64_in, IntWalk.i64_quo, f3, f15, f17, f18, f19, hm, hm', hi, hi', nm_beq, e]
    refine region_static rfl (by decide +kernel) ?_
    simp (disch := first | omega | (simp only [List.length_take, List.length_drop, List.length_append, List.length_cons, List.length_nil, List.length_map]; omega)) [IntWalk.i64_in, IntWalk.i64_quo, f3, f15, f17, f18, f19, hm, hm', hi, hi', nm_beq, e]
    exact ⟨j - 1, by omega, m + 1, by omega, by rw [hst, if_pos e.symm]; rfl, by omega⟩
  · simp (disch := first | omega | (simp only [List.length_take, List.length_drop, List.length_append, List.length_cons, List.length_nil, List.length_map]; omega)) [IntWalk.i64_in, IntWalk.i64_quo, f3, f15, f17, f18, f19, hm, hm', hi, hi', nm_beq, e]
    refine region_static rfl (by decide +kernel) ?_
    simp (disch := first | omega | (simp only [List.length_take, List.length_drop, List.length_append, List.length_cons, List.length_nil, List.length_map]; omega)) [IntWalk.i64_in, IntWalk.i64_quo, f3, f15, f17, f18, f19, hm, hm', hi, hi', nm_beq, e]
    exact ⟨j - 1, by omega, m + 1, by omega, by rw [hst, if_neg fun h => e h.symm]; rfl, by omega⟩
theorem e10 (hl : l.length ≤ 200) {env : Env} {g : List Blk} {gt : List (Nat × Nat)} {s : List Nm} (h3 : env 3 = .sl .any (nms l)) (h15 : env 15 = .sl .any (nms s)) (hs : s.length ≤ l.length) (hc : ∀ x ∈ l, s.count x = 1) (hp : s.Pairwise fun a b => lessN a b = true) : awC (orc Try.prog B7) c3r10 env ⟨st.heap ++ g, st.toks ++ gt⟩ (KD st) := by
  simp (disch := first | omega | (simp only [List.length_take, List.length_drop, List.length_append, List.length_cons, List.length_nil, List.length_map]; omega)) [IntWalk.i64_in, IntWalk.i64_quo, c3r10, c3p10]
  refine awC_loopW (fun k env s' => ∃ i g gt, k + i = s.length + 1 ∧ 1 ≤ i ∧ env 3 = .sl .any (nms l) ∧ env 15 = .sl .any (nms s) ∧ env 16 = .int .i64 i ∧ s' = ⟨st.heap ++ g, st.toks ++ gt⟩) s.length ?_ ?_
  · exact ⟨1, _, _, by omega, by omega, by simp [h3], by simp [h15], by simp, rfl⟩
  rintro k env s' ⟨i, g, gt, hk, h1, h3, h15, h16, rfl⟩
  by_cases hi : i < s.length
  case neg =>
    have hi' : ¬ (i : Int) < s.length := by omega
    simp (disch := first | omega | (simp only [List.length_take, List.length_drop, List.length_append, List.length_cons, List.length_nil, List.length_map]; omega)) [IntWalk.i64_in, IntWalk.i64_quo, h3, h15, h16, hi']
    exact e11 hl (by simp [h3]) (by simp [h15]) hs hc
  have hi' : (i : Int) < s.length := by omega
  have h1' : 1 ≤ (i : Int) := by omega
  have hti : ((i : Int) - 1).toNat = i - 1 := by omega
  have hlt : i - 1 < s.length := by omega
  have hless : lessN s[i - 1] s[i] = true := List.pairwise_iff_getElem.1 hp (i - 1) i (by omega) hi (by omega)
  simp (disch := first | omega | (simp only [List.length_take, List.length_drop, List.length_append, List.length_cons, List.length_nil, List.length_map]; omega)) [IntWalk.i64_in, IntWalk.i64_quo, h3, h15, h16, hi, hi', h1', hti, hlt, hless]
  refine region_static rfl (by decide +kernel) ?_
  simp (disch := first | omega | (simp only [List.length_take, List.length_drop, List.length_append, List.length_cons, List.length_nil, List.length_map]; omega)) [IntWalk.i64_in, IntWalk.i64_quo, h3, h15, h16, hi, hi', h1', hti, hlt, hless]
  exact ⟨k - 1, by omega, i + 1, by omega, by omega, by omega⟩
theorem count_one {s : List Nm} {x : Nm} (h : x ∈ s) (hn : s.Nodup) : s.count x = 1 := by
  rw [hn.count, if_pos h]
theorem e9 (hl : l.length ≤ 200) {env : Env} {g : List Blk} {gt : List (Nat × Nat)} (h3 : env 3 = .sl .any (nms l)) : awC (orc Try.prog B7) c3r9 env ⟨st.heap ++ g, st.toks ++ gt⟩ (KD st) := by
  have h1 := sortU_length l
  have h2 := sortU_rise l
  have h4 : ∀ x ∈ l, (sortU l).count x = 1 := fun x hx => count_one ((mem_sortU l).2 hx) (nodup_ddS _)
  have hl2 : l.length ≤ 1000000 := by omega
  simp (disch := first | omega | (simp only [List.length_take, List.length_drop, List.length_append, List.length_cons, List.length_nil, List.length_map]; omega)) [IntWalk.i64_in, IntWalk.i64_quo, c3r9, c3p9, h3, hl2]
  exact e10 hl (by simp [h3]) (by simp) h1 h4 h2
def othN (o : Nm) (l : List Nm) : List Nm := l.filter fun x => decide (x.stamp ≠ o.stamp)
theorem othN_step (o : Nm) (i : Nat) (h : i < l.length) : othN o (l.take (i + 1)) = if l[i].stamp = o.stamp then othN o (l.take i) else othN o (l.take i) ++ [l[i]] := by
  rw [List.take_succ_eq_append_getElem h, othN, List.filter_append]
  by_cases e : l[i].stamp = o.stamp
  · simp [e, othN]
  · simp [e, othN]
theorem othN_length (o : Nm) (l : List Nm) : (othN o l).length ≤ l.length := List.length_filter_le _ _
theorem e8 (hl : l.length ≤ 200) {env : Env} {g : List Blk} {gt : List (Nat × Nat)} {t : Tok} (h3 : env 3 = .sl .any (nms l)) (h11 : env 11 = .ptr st.heap.length 0) (h13 : env 13 = .sl t (nms (othN (oldN l).1 l))) : awC (orc Try.prog B7) c3r8 env ⟨st.heap ++ .cells false (nmC (oldN l).1) :: g, st.toks ++ gt⟩ (KD st) := by
  have hw : waitsN (oldN l).1 (othN (oldN l).1 l) = true := by
    simp only [waitsN, List.all_eq_true, othN, List.mem_filter, decide_eq_true_eq]
    intro x ⟨hx, hne⟩
    have := (old_facts l).2 x hx
    rw [olderN_iff]
    omega
  have ho := othN_length (oldN l).1 l
  have hol : (othN (oldN l).1 l).length ≤ 1048576 := by omega
  simp (disch := first | omega | (simp only [List.length_take, List.length_drop, List.length_append, List.length_cons, List.length_nil, List.length_map]; omega)) [IntWalk.i64_in, IntWalk.i64_quo, c3r8, c3p8, h3, h11, h13, hw, hol]
  exact e9 (g := .cells false (nmC (oldN l).1) :: g) hl (by simp [h3])
theorem e6 (hl : l.length ≤ 200) {env : Env} {g : List Blk} (h3 : env 3 = .sl .any (nms l)) (h11 : env 11 = .ptr st.heap.length 0) : awC (orc Try.prog B7) c3r6 env ⟨st.heap ++ .cells false (nmC (oldN l).1) :: g, st.toks⟩ (KD st) := by
  simp (disch := first | omega | (simp only [List.length_take, List.length_drop, List.length_append, List.length_cons, List.length_nil, List.length_map]; omega)) [IntWalk.i64_in, IntWalk.i64_quo, c3r6, c3p6, c3r7, c3p7]
  refine awC_loopOwnW 13 3 [] (by simp) (fun k env s' => ∃ i g, k + i = l.length ∧ env 3 = .sl .any (nms l) ∧ env 11 = .ptr st.heap.length 0 ∧ env 13 = .sl (.own st.toks.length) (nms (othN (oldN l).1 (l.take i))) ∧ env 14 = .int .i64 i ∧ s' = ⟨st.heap ++ .cells false (nmC (oldN l).1) :: g, st.toks ++ [((othN (oldN l).1 (l.take i)).length, 3)]⟩) l.length ?_ ?_
  · exact ⟨0, _, by omega, by simp [h3], by simp [h11], by simp [othN], by simp, rfl⟩
  rintro k env s' ⟨i, g, hk, h3, h11, h13, h14, rfl⟩
  by_cases hi : i < l.length
  case neg =>
    have hi' : ¬ (i : Int) < l.length := by omega
    rw [List.take_of_length_le (by omega)] at h13 ⊢
    simp (disch := first | omega | (simp only [List.length_take, List.length_drop, List.length_append, List.length_cons, List.length_nil, List.length_map]; omega)) [IntWalk.i64_in, IntWalk.i64_quo, h3, h11, h13, h14, hi']
    exact e8 (t := .own st.toks.length) hl (by simp [h3]) (by simp [h11]) (by simp [h13])
  have hi' : (i : Int) < l.length := by omega
  have hst := othN_step (oldN l).1 i hi
  have hof := (old_facts l).2 _ (List.getElem_mem hi)
  have hlen := othN_length (oldN l).1 (l.take i)
  rw [List.length_take] at hlen
  have hold : olderN l[i] (oldN l).1 = false := by
    rw [← Bool.not_eq_true, olderN_iff]
    omega
  by_cases he : l[i].stamp = (oldN l).1.stamp
  · rw [if_pos he] at hst
    simp (disch := first | omega | (simp only [List.length_take, List.length_drop, List.length_append, List.length_cons, List.length_nil, List.length_map]; omega)) [IntWalk.i64_in, IntWalk.i64_quo, h3, h11, h13, h14, hi, hi']
    refine region_static rfl (by decide +kernel) ?_
    simp (disch := first | omega | (simp only [List.length_take, List.length_drop, List.length_append, List.length_cons, List.length_nil, List.length_map]; omega)) [IntWalk.i64_in, IntWalk.i64_quo, h3, h11, h13, h14, hi, hi', he]
    refine region_static rfl (by decide +kernel) ?_
    simp (disch := first | omega | (simp only [List.length_take, List.length_drop, List.length_append, List.length_cons, List.length_nil, List.length_map]; omega)) [IntWalk.i64_in, IntWalk.i64_quo, h3, h11, h13, h14, hi, hi', hold]
    exact ⟨k - 1, by omega, i + 1, by omega, by rw [hst], by omega, by rw [hst]⟩
  · rw [if_neg he] at hst
    simp (disch := first | omega | (simp only [List.length_take, List.length_drop, List.length_append, List.length_cons, List.length_nil, List.length_map]; omega)) [IntWalk.i64_in, IntWalk.i64_quo, h3, h11, h13, h14, hi, hi']
    refine region_static rfl (by decide +kernel) ?_
    simp (disch := first | omega | (simp only [List.length_take, List.length_drop, List.length_append, List.length_cons, List.length_nil, List.length_map]; omega)) [IntWalk.i64_in, IntWalk.i64_quo, h3, h11, h13, h14, hi, hi', he, nms_snoc]
    refine ⟨by omega, ?_⟩
    refine region_static rfl (by decide +kernel) ?_
    simp (disch := first | omega | (simp only [List.length_take, List.length_drop, List.length_append, List.length_cons, List.length_nil, List.length_map]; omega)) [IntWalk.i64_in, IntWalk.i64_quo, h3, h11, h13, h14, hi, hi', hold]
    exact ⟨k - 1, by omega, i + 1, by omega, by rw [hst], by omega, by rw [hst]; simp⟩
theorem e4 (hl : l.length ≤ 200) {env : Env} (h3 : env 3 = .sl .any (nms l)) : awC (orc Try.prog B7) c3r4 env st (KD st) := by
  have h1 := (old_facts l).1
  have hl1 : l.length ≤ 1048576 := by omega
  cases l with
  | nil =>
    have hz : oldN [] = (⟨0, 0, 0⟩, false) := rfl
    have hB : B4 11 [.sl .any []] = some (.tup [.agg [.int .i64 0, .int .i64 0, .int .i64 0], .bool false]) := B4_11 [] (by simp)
    simp (disch := first | omega | (simp only [List.length_take, List.length_drop, List.length_append, List.length_cons, List.length_nil, List.length_map]; omega)) [IntWalk.i64_in, IntWalk.i64_quo, c3r4, c3p4, c3r5, c3p5, h3, hB]
    exact e6 (l := []) (g := []) (by simp) (by simp [h3]) (by simp)
  | cons x l =>
    have h1' : (oldN (x :: l)).2 = true := by rw [h1]; simp
    have hp : (0 : Int) < (l.length : Int) + 1 := by omega
    simp (disch := first | omega | (simp only [List.length_take, List.length_drop, List.length_append, List.length_cons, List.length_nil, List.length_map]; omega)) [IntWalk.i64_in, IntWalk.i64_quo, c3r4, c3p4, c3r5, c3p5, h3, h1', hl1, hp]
    exact e6 (l := x :: l) (g := []) hl (by simp [h3]) (by simp)
end
theorem lorder_spec (a b c : Nm) (l : List Nm) (st : St) : ASpec Try.prog 3 [.agg (nmC a), .agg (nmC b), .agg (nmC c), .sl .any (nms l)] st fun v st' => v = .bool true ∧ st' = st := by
  refine pure_of (R := fun v => v = _) B7s F3 rfl ?_
  by_cases hg : 200 < l.length
  · have hg' : (200 : Int) < l.length := by omega
    simp (disch := first | omega | (simp only [List.length_take, List.length_drop, List.length_append, List.length_cons, List.length_nil, List.length_map]; omega)) [IntWalk.i64_in, IntWalk.i64_quo, c3, c3p0, c3r1, c3p1, hg]
  have hl : l.length ≤ 200 := by omega
  have w1 : B3 9 [nmA a, .sl .any [nmA b]] = some (.bool (olderN a b)) := by
    have h := B3_9 a.stamp a.inc a.tr [b] (by simp)
    rw [show waitsN ⟨a.stamp, a.inc, a.tr⟩ [b] = olderN a b by simp [waitsN]] at h
    exact h
  have w2 : B3 9 [nmA b, .sl .any [nmA a]] = some (.bool (olderN b a)) := by
    have h := B3_9 b.stamp b.inc b.tr [a] (by simp)
    rw [show waitsN ⟨b.stamp, b.inc, b.tr⟩ [a] = olderN b a by simp [waitsN]] at h
    exact h
  simp only [nmA] at w1 w2
  simp (disch := first | omega | (simp only [List.length_take, List.length_drop, List.length_append, List.length_cons, List.length_nil, List.length_map]; omega)) [IntWalk.i64_in, IntWalk.i64_quo, c3, c3p0, c3r1, c3p1, hg, c3r2, c3p2, w1, w2]
  refine region_static rfl (by decide +kernel) ?_
  have haa : olderN a a = false := by rw [← Bool.not_eq_true, olderN_iff]; omega
  rcases Int.lt_trichotomy a.stamp b.stamp with h | h | h
  · have hab : olderN a b = true := by rw [olderN_iff]; omega
    have hba : olderN b a = false := by rw [← Bool.not_eq_true, olderN_iff]; omega
    have hne : ¬ a.stamp = b.stamp := by omega
    by_cases hbc : olderN b c = true
    · by_cases hac : olderN a c = true
      · simp (disch := first | omega | (simp only [List.length_take, List.length_drop, List.length_append, List.length_cons, List.length_nil, List.length_map]; omega)) [IntWalk.i64_in, IntWalk.i64_quo, w1, w2]
        simp (disch := first | omega | (simp only [List.length_take, List.length_drop, List.length_append, List.length_cons, List.length_nil, List.length_map]; omega)) [IntWalk.i64_in, IntWalk.i64_quo, c3r3, c3p3, hab, hba, haa, hbc, hac, hne]
        exact e4 hl (by simp)
      · exact absurd (olderN_iff.2 (by rw [olderN_iff] at hbc; omega)) hac
    · by_cases hac : olderN a c = true
      · simp (disch := first | omega | (simp only [List.length_take, List.length_drop, List.length_append, List.length_cons, List.length_nil, List.length_map]; omega)) [IntWalk.i64_in, IntWalk.i64_quo, w1, w2]
        simp (disch := first | omega | (simp only [List.length_take, List.length_drop, List.length_append, List.length_cons, List.length_nil, List.length_map]; omega)) [IntWalk.i64_in, IntWalk.i64_quo, c3r3, c3p3, hab, hba, haa, hbc, hac, hne]
        exact e4 hl (by simp)
      · simp (disch := first | omega | (simp only [List.length_take, List.length_drop, List.length_append, List.length_cons, List.length_nil, List.length_map]; omega)) [IntWalk.i64_in, IntWalk.i64_quo, w1, w2]
        simp (disch := first | omega | (simp only [List.length_take, List.length_drop, List.length_append, List.length_cons, List.length_nil, List.length_map]; omega)) [IntWalk.i64_in, IntWalk.i64_quo, c3r3, c3p3, hab, hba, haa, hbc, hac, hne]
        exact e4 hl (by simp)
  · have hab : olderN a b = false := by rw [← Bool.not_eq_true, olderN_iff]; omega
    have hba : olderN b a = false := by rw [← Bool.not_eq_true, olderN_iff]; omega
    have hne : (a.stamp = b.stamp) = True := eq_true (by omega)
    by_cases hbc : olderN b c = true
    · by_cases hac : olderN a c = true
      · simp (disch := first | omega | (simp only [List.length_take, List.length_drop, List.length_append, List.length_cons, List.length_nil, List.length_map]; omega)) [IntWalk.i64_in, IntWalk.i64_quo, w1, w2]
        simp (disch := first | omega | (simp only [List.length_take, List.length_drop, List.length_append, List.length_cons, List.length_nil, List.length_map]; omega)) [IntWalk.i64_in, IntWalk.i64_quo, c3r3, c3p3, hab, hba, haa, hbc, hac, hne]
        exact e4 hl (by simp)
      · simp (disch := first | omega | (simp only [List.length_take, List.length_drop, List.length_append, List.length_cons, List.length_nil, List.length_map]; omega)) [IntWalk.i64_in, IntWalk.i64_quo, w1, w2]
        simp (disch := first | omega | (simp only [List.length_take, List.length_drop, List.length_append, List.length_cons, List.length_nil, List.length_map]; omega)) [IntWalk.i64_in, IntWalk.i64_quo, c3r3, c3p3, hab, hba, haa, hbc, hac, hne]
        exact e4 hl (by simp)
    · by_cases hac : olderN a c = true
      · simp (disch := first | omega | (simp only [List.length_take, List.length_drop, List.length_append, List.length_cons, List.length_nil, List.length_map]; omega)) [IntWalk.i64_in, IntWalk.i64_quo, w1, w2]
        simp (disch := first | omega | (simp only [List.length_take, List.length_drop, List.length_append, List.length_cons, List.length_nil, List.length_map]; omega)) [IntWalk.i64_in, IntWalk.i64_quo, c3r3, c3p3, hab, hba, haa, hbc, hac, hne]
        exact e4 hl (by simp)
      · simp (disch := first | omega | (simp only [List.length_take, List.length_drop, List.length_append, List.length_cons, List.length_nil, List.length_map]; omega)) [IntWalk.i64_in, IntWalk.i64_quo, w1, w2]
        simp (disch := first | omega | (simp only [List.length_take, List.length_drop, List.length_append, List.length_cons, List.length_nil, List.length_map]; omega)) [IntWalk.i64_in, IntWalk.i64_quo, c3r3, c3p3, hab, hba, haa, hbc, hac, hne]
        exact e4 hl (by simp)
  · have hab : olderN a b = false := by rw [← Bool.not_eq_true, olderN_iff]; omega
    have hba : olderN b a = true := by rw [olderN_iff]; omega
    have hne : ¬ a.stamp = b.stamp := by omega
    by_cases hbc : olderN b c = true
    · by_cases hac : olderN a c = true
      · simp (disch := first | omega | (simp only [List.length_take, List.length_drop, List.length_append, List.length_cons, List.length_nil, List.length_map]; omega)) [IntWalk.i64_in, IntWalk.i64_quo, w1, w2]
        simp (disch := first | omega | (simp only [List.length_take, List.length_drop, List.length_append, List.length_cons, List.length_nil, List.length_map]; omega)) [IntWalk.i64_in, IntWalk.i64_quo, c3r3, c3p3, hab, hba, haa, hbc, hac, hne]
        exact e4 hl (by simp)
      · simp (disch := first | omega | (simp only [List.length_take, List.length_drop, List.length_append, List.length_cons, List.length_nil, List.length_map]; omega)) [IntWalk.i64_in, IntWalk.i64_quo, w1, w2]
        simp (disch := first | omega | (simp only [List.length_take, List.length_drop, List.length_append, List.length_cons, List.length_nil, List.length_map]; omega)) [IntWalk.i64_in, IntWalk.i64_quo, c3r3, c3p3, hab, hba, haa, hbc, hac, hne]
        exact e4 hl (by simp)
    · by_cases hac : olderN a c = true
      · simp (disch := first | omega | (simp only [List.length_take, List.length_drop, List.length_append, List.length_cons, List.length_nil, List.length_map]; omega)) [IntWalk.i64_in, IntWalk.i64_quo, w1, w2]
        simp (disch := first | omega | (simp only [List.length_take, List.length_drop, List.length_append, List.length_cons, List.length_nil, List.length_map]; omega)) [IntWalk.i64_in, IntWalk.i64_quo, c3r3, c3p3, hab, hba, haa, hbc, hac, hne]
        exact e4 hl (by simp)
      · simp (disch := first | omega | (simp only [List.length_take, List.length_drop, List.length_append, List.length_cons, List.length_nil, List.length_map]; omega)) [IntWalk.i64_in, IntWalk.i64_quo, w1, w2]
        simp (disch := first | omega | (simp only [List.length_take, List.length_drop, List.length_append, List.length_cons, List.length_nil, List.length_map]; omega)) [IntWalk.i64_in, IntWalk.i64_quo, c3r3, c3p3, hab, hba, haa, hbc, hac, hne]
        exact e4 hl (by simp)
theorem nm_of {a : AV} (h : ElemS (some 3) [.int .i64, .int .i64, .int .i64] a) : ∃ n : Nm, a = nmA n ∧ True := by
  obtain ⟨xs, rfl, hh⟩ := elem_k h
  clear h
  have h := hh
  obtain ⟨a0, xs, rfl, h0, h⟩ := cells_cons h
  obtain ⟨a1, xs, rfl, h1, h⟩ := cells_cons h
  obtain ⟨a2, xs, rfl, h2, h⟩ := cells_cons h
  obtain rfl := cells_nil h
  obtain ⟨x0, rfl, _⟩ := ctok_i64 h0
  obtain ⟨x1, rfl, _⟩ := ctok_i64 h1
  obtain ⟨x2, rfl, _⟩ := ctok_i64 h2
  exact ⟨⟨x0, x1, x2⟩, rfl, trivial⟩
theorem lorder_avs (avs : List AV) (h : Shapes Try.prog [23, 23, 23, 24] avs) (st : St) : ASpec Try.prog 3 avs st fun v st' => v = .bool true ∧ st' = st := by
  obtain ⟨a0, r, rfl, h0, h⟩ := shapes_cons h
  obtain ⟨a1, r, rfl, h1, h⟩ := shapes_cons h
  obtain ⟨a2, r, rfl, h2, h⟩ := shapes_cons h
  obtain ⟨a3, r, rfl, h3, h⟩ := shapes_cons h
  obtain rfl := shapes_nil h
  obtain ⟨a, rfl, _⟩ := nm_of (h0.inv (by kernel_rfl) (by kernel_rfl))
  obtain ⟨b, rfl, _⟩ := nm_of (h1.inv (by kernel_rfl) (by kernel_rfl))
  obtain ⟨c, rfl, _⟩ := nm_of (h2.inv (by kernel_rfl) (by kernel_rfl))
  obtain ⟨l, rfl, _, _⟩ := ctok_slOf (f := nmA) (elem_1 (h3.inv (by kernel_rfl) (by kernel_rfl))) (fun e he => nm_of he)
  exact lorder_spec a b c l st
end Go.Proofs.Ythfjkapkjidebaa

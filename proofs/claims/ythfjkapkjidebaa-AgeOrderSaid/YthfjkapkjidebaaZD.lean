/- Oldest. -/
import Derived.Test.YthfjkapkjidebaaZC
set_option linter.all false
namespace Go.Proofs.Ythfjkapkjidebaa
open Go.Am

noncomputable def B2 : Orc := B1.add 12 (tab (fun x : List Nm => [.sl .any (nms x)]) (fun x => .sl .any (nms (sortU x))) fun x => x.length ≤ 1000000)
theorem B2s : OSound Try.prog B2 := B1s.tab fun x h st => sort_spec x h st
@[simp] theorem B2_12 (l : List Nm) (h : l.length ≤ 1000000) : B2 12 [.sl .any (nms l)] = some (.sl .any (nms (sortU l))) := by
  rw [B2, Orc.add_same]
  exact tab_eq (fun x y h => by simp at h; simp [h]) (x := (l)) h
@[simp] theorem B2_o (f : Nat) (args : List AV) (h : f ≠ 12) : B2 f args = B1 f args := by
  rw [B2, Orc.add_other _ _ _ _ _ h]
noncomputable def B3 : Orc := B2.add 9 (tab (fun x : Int × Int × Int × List Nm => [.agg [.int .i64 x.1, .int .i64 x.2.1, .int .i64 x.2.2.1], .sl .any (nms x.2.2.2)]) (fun x => .bool (waitsN ⟨x.1, x.2.1, x.2.2.1⟩ x.2.2.2)) fun x => x.2.2.2.length ≤ 1048576)
theorem B3s : OSound Try.prog B3 := B2s.tab fun x h st => waits_spec ⟨x.1, x.2.1, x.2.2.1⟩ x.2.2.2 st h
@[simp] theorem B3_9 (a : Int) (b : Int) (c : Int) (l : List Nm) (h : l.length ≤ 1048576) : B3 9 [.agg [.int .i64 a, .int .i64 b, .int .i64 c], .sl .any (nms l)] = some (.bool (waitsN ⟨a, b, c⟩ l)) := by
  rw [B3, Orc.add_same]
  exact tab_eq (fun x y h => by simp at h; simp [h]) (x := (a, b, c, l)) h
@[simp] theorem B3_o (f : Nat) (args : List AV) (h : f ≠ 9) : B3 f args = B2 f args := by
  rw [B3, Orc.add_other _ _ _ _ _ h]
def keepN (q : Nm × Bool) (x : Nm) : Nm × Bool := if q.2 = false ∨ lessN x q.1 = true then (x, true) else q
def oldN (l : List Nm) : Nm × Bool := l.foldl keepN (⟨0, 0, 0⟩, false)
theorem oldN_step (l : List Nm) (i : Nat) (h : i < l.length) : oldN (l.take (i + 1)) = keepN (oldN (l.take i)) l[i] := by
  rw [List.take_succ_eq_append_getElem h, oldN, List.foldl_append]
  rfl
theorem keep_spec (x n : Nm) (ok : Bool) {b g : List Blk} {t : List (Nat × Nat)} {o : Nat} (ho : o = b.length + 1) : ASpec Try.prog 29 [.agg (nmC x), .ptr o 0, .ptr b.length 0] ⟨b ++ .cells false (nmC n) :: .cells false [.bool ok] :: g, t⟩ fun v st' => v = .tup [] ∧ st' = ⟨b ++ .cells false (nmC (keepN (n, ok) x).1) :: .cells false [.bool (keepN (n, ok) x).2] :: g, t⟩ := by
  subst ho
  refine raw_of B3s F29 rfl ?_
  unfold keepN
  cases ok with
  | false =>
    simp (disch := first | omega | (simp only [List.length_take, List.length_drop, List.length_append, List.length_cons, List.length_nil, List.length_map]; omega)) [IntWalk.i64_in, IntWalk.i64_quo, c29]
    exact .inl ⟨by simp, by simp, rfl, rfl⟩
  | true =>
    by_cases h : lessN x n = true
    · simp (disch := first | omega | (simp only [List.length_take, List.length_drop, List.length_append, List.length_cons, List.length_nil, List.length_map]; omega)) [IntWalk.i64_in, IntWalk.i64_quo, c29, h]
      exact .inl ⟨by simp, by simp, rfl, rfl⟩
    · simp (disch := first | omega | (simp only [List.length_take, List.length_drop, List.length_append, List.length_cons, List.length_nil, List.length_map]; omega)) [IntWalk.i64_in, IntWalk.i64_quo, c29, h]
      exact .inl ⟨by simp, by simp, rfl, rfl⟩
theorem oldest_spec (l : List Nm) (hl : l.length ≤ 1048576) (st : St) : ASpec Try.prog 11 [.sl .any (nms l)] st fun v st' => v = .tup [.agg (nmC (oldN l).1), .bool (oldN l).2] ∧ st' = st := by
  refine pure_of (R := fun v => v = _) B3s F11 rfl ?_
  simp (disch := first | omega | (simp only [List.length_take, List.length_drop, List.length_append, List.length_cons, List.length_nil, List.length_map]; omega)) [IntWalk.i64_in, IntWalk.i64_quo, c11]
  refine awC_loopW (fun k env s => ∃ i g gt, k + i = l.length ∧ env 2 = .ptr st.heap.length 0 ∧ env 3 = .ptr (st.heap.length + 1) 0 ∧ env 4 = .fn (.func 29) [] [.ptr (st.heap.length + 1) 0, .ptr st.heap.length 0] ∧ env 8 = .sl .any (nms l) ∧ env 9 = .int .i64 l.length ∧ env 10 = .int .i64 i ∧ s = ⟨st.heap ++ .cells false (nmC (oldN (l.take i)).1) :: .cells false [.bool (oldN (l.take i)).2] :: g, st.toks ++ gt⟩) l.length ?_ ?_
  · exact ⟨0, [], [], by simp [oldN]⟩
  rintro k env s ⟨i, g, gt, hk, e2, e3, e4, e8, e9, e10, rfl⟩
  by_cases hi : i < l.length
  case neg =>
    have hi' : ¬ (i : Int) < l.length := by omega
    rw [List.take_of_length_le (by omega)]
    simp (disch := first | omega | (simp only [List.length_take, List.length_drop, List.length_append, List.length_cons, List.length_nil, List.length_map]; omega)) [IntWalk.i64_in, IntWalk.i64_quo, e2, e3, e4, e8, e9, e10, hi']
    refine region_enum [[0, 1, 2, 3], [0, 2, 1, 3], [1, 0, 2, 3]] (by decide +kernel) ?_
    simp (disch := first | omega | (simp only [List.length_take, List.length_drop, List.length_append, List.length_cons, List.length_nil, List.length_map]; omega)) [IntWalk.i64_in, IntWalk.i64_quo, e2, e3, e4, e8, e9, e10]
  have hi' : (i : Int) < l.length := by omega
  have hst := oldN_step l i hi
  generalize oldN (l.take i) = q at hst ⊢
  obtain ⟨n, ok⟩ := q
  simp (disch := first | omega | (simp only [List.length_take, List.length_drop, List.length_append, List.length_cons, List.length_nil, List.length_map]; omega)) [IntWalk.i64_in, IntWalk.i64_quo, e2, e3, e4, e8, e9, e10, hi, hi']
  refine (keep_spec l[i] n ok (b := st.heap) (g := g ++ [.cells false (nmC l[i])]) rfl).mono ?_
  rintro _ _ ⟨rfl, rfl⟩
  simp (disch := first | omega | (simp only [List.length_take, List.length_drop, List.length_append, List.length_cons, List.length_nil, List.length_map]; omega)) [IntWalk.i64_in, IntWalk.i64_quo, e2, e3, e4, e8, e9, e10, hi, hi']
  exact ⟨k - 1, by omega, i + 1, by omega, by omega, by rw [hst]; exact ⟨⟨rfl, rfl, rfl⟩, rfl⟩⟩
theorem name_spec (n : Int) (st : St) : ASpec Try.prog 28 [.int .i64 n] st fun v st' => v = .agg [.int .i64 n, .int .i64 1, .int .i64 1] ∧ st' = st := by
  refine pure_of (R := fun v => v = _) B3s F28 rfl ?_
  simp (disch := first | omega | (simp only [List.length_take, List.length_drop, List.length_append, List.length_cons, List.length_nil, List.length_map]; omega)) [IntWalk.i64_in, IntWalk.i64_quo, c28]
noncomputable def B4 : Orc := B3.add 11 (tab (fun x : List Nm => [.sl .any (nms x)]) (fun x => .tup [.agg (nmC (oldN x).1), .bool (oldN x).2]) fun x => x.length ≤ 1048576)
theorem B4s : OSound Try.prog B4 := B3s.tab fun x h st => oldest_spec x h st
@[simp] theorem B4_11 (l : List Nm) (h : l.length ≤ 1048576) : B4 11 [.sl .any (nms l)] = some (.tup [.agg (nmC (oldN l).1), .bool (oldN l).2]) := by
  rw [B4, Orc.add_same]
  exact tab_eq (fun x y h => by simp at h; simp [h]) (x := (l)) h
@[simp] theorem B4_o (f : Nat) (args : List AV) (h : f ≠ 11) : B4 f args = B3 f args := by
  rw [B4, Orc.add_other _ _ _ _ _ h]
noncomputable def B5 : Orc := B4.add 28 (tab (fun x : Int => [.int .i64 x]) (fun x => .agg [.int .i64 x, .int .i64 1, .int .i64 1]) fun x => True)
theorem B5s : OSound Try.prog B5 := B4s.tab fun x h st => name_spec x st
@[simp] theorem B5_28 (n : Int) : B5 28 [.int .i64 n] = some (.agg [.int .i64 n, .int .i64 1, .int .i64 1]) := by
  rw [B5, Orc.add_same]
  exact tab_eq (fun x y h => by simp at h; simp [h]) (x := (n)) trivial
@[simp] theorem B5_o (f : Nat) (args : List AV) (h : f ≠ 28) : B5 f args = B4 f args := by
  rw [B5, Orc.add_other _ _ _ _ _ h]
theorem great_spec (l : List Nm) (st : St) : ASpec Try.prog 7 [.sl .any (nms l)] st fun v st' => v = .bool (decide (200 < l.length)) ∧ st' = st := by
  refine pure_of (R := fun v => v = _) B5s F7 rfl ?_
  simp (disch := first | omega | (simp only [List.length_take, List.length_drop, List.length_append, List.length_cons, List.length_nil, List.length_map]; omega)) [IntWalk.i64_in, IntWalk.i64_quo, c7]
  constructor <;> intro h <;> omega
noncomputable def B6 : Orc := B5.add 7 (tab (fun x : List Nm => [.sl .any (nms x)]) (fun x => .bool (decide (200 < x.length))) fun x => True)
theorem B6s : OSound Try.prog B6 := B5s.tab fun x h st => great_spec x st
@[simp] theorem B6_7 (l : List Nm) : B6 7 [.sl .any (nms l)] = some (.bool (decide (200 < l.length))) := by
  rw [B6, Orc.add_same]
  exact tab_eq (fun x y h => by simp at h; simp [h]) (x := (l)) trivial
@[simp] theorem B6_o (f : Nat) (args : List AV) (h : f ≠ 7) : B6 f args = B5 f args := by
  rw [B6, Orc.add_other _ _ _ _ _ h]
theorem one_one (a b c : Int) : [.agg [.int .i64 a, .int .i64 b, .int .i64 c]] = nms [⟨a, b, c⟩] := rfl
theorem one_two (a b c d e f : Int) : [.agg [.int .i64 a, .int .i64 b, .int .i64 c], .agg [.int .i64 d, .int .i64 e, .int .i64 f]] = nms [⟨a, b, c⟩, ⟨d, e, f⟩] := rfl
theorem one_three (a b c d e f g h i : Int) : [.agg [.int .i64 a, .int .i64 b, .int .i64 c], .agg [.int .i64 d, .int .i64 e, .int .i64 f], .agg [.int .i64 g, .int .i64 h, .int .i64 i]] = nms [⟨a, b, c⟩, ⟨d, e, f⟩, ⟨g, h, i⟩] := rfl
theorem wake_1 : oldN [⟨5, 1, 1⟩, ⟨3, 1, 1⟩, ⟨7, 1, 1⟩] = (⟨3, 1, 1⟩, true) := by decide +kernel
theorem wake_2 : waitsN ⟨3, 1, 1⟩ [⟨5, 1, 1⟩, ⟨7, 1, 1⟩] = true := by decide +kernel
theorem wake_3 : waitsN ⟨5, 1, 1⟩ [⟨3, 1, 1⟩, ⟨7, 1, 1⟩] = false := by decide +kernel
theorem w_1 : B4 11 [.sl .any [.agg [.int .i64 5, .int .i64 1, .int .i64 1], .agg [.int .i64 3, .int .i64 1, .int .i64 1], .agg [.int .i64 7, .int .i64 1, .int .i64 1]]] = some (.tup [.agg [.int .i64 3, .int .i64 1, .int .i64 1], .bool true]) := by
  have := B4_11 [⟨5, 1, 1⟩, ⟨3, 1, 1⟩, ⟨7, 1, 1⟩] (by simp)
  rw [wake_1] at this
  exact this
theorem w_2 : B3 9 [.agg [.int .i64 3, .int .i64 1, .int .i64 1], .sl .any [.agg [.int .i64 5, .int .i64 1, .int .i64 1], .agg [.int .i64 7, .int .i64 1, .int .i64 1]]] = some (.bool true) := by
  have := B3_9 3 1 1 [⟨5, 1, 1⟩, ⟨7, 1, 1⟩] (by simp)
  rw [wake_2] at this
  exact this
theorem w_3 : B3 9 [.agg [.int .i64 5, .int .i64 1, .int .i64 1], .sl .any [.agg [.int .i64 3, .int .i64 1, .int .i64 1], .agg [.int .i64 7, .int .i64 1, .int .i64 1]]] = some (.bool false) := by
  have := B3_9 5 1 1 [⟨3, 1, 1⟩, ⟨7, 1, 1⟩] (by simp)
  rw [wake_3] at this
  exact this
theorem wakes_spec (st : St) : ASpec Try.prog 8 [] st fun v st' => v = .bool true ∧ st' = st := by
  refine pure_of (R := fun v => v = _) B6s F8 rfl ?_
  simp (disch := first | omega | (simp only [List.length_take, List.length_drop, List.length_append, List.length_cons, List.length_nil, List.length_map]; omega)) [IntWalk.i64_in, IntWalk.i64_quo, c8, w_1, w_2, w_3]
noncomputable def B7 : Orc := B6.add 8 (tab (fun x : Unit => []) (fun x => .bool true) fun x => True)
theorem B7s : OSound Try.prog B7 := B6s.tab fun x h st => wakes_spec st
@[simp] theorem B7_8  : B7 8 [] = some (.bool true) := by
  rw [B7, Orc.add_same]
  exact tab_eq (fun x y h => by rfl) (x := ()) trivial
@[simp] theorem B7_o (f : Nat) (args : List AV) (h : f ≠ 8) : B7 f args = B6 f args := by
  rw [B7, Orc.add_other _ _ _ _ _ h]
end Go.Proofs.Ythfjkapkjidebaa

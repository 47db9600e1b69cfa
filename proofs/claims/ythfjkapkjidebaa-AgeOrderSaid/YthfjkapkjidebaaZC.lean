/- Sort. -/
import Derived.Test.YthfjkapkjidebaaZB
set_option linter.all false
namespace Go.Proofs.Ythfjkapkjidebaa
open Go.Am

theorem nms_inj {a b : List Nm} : nms a = nms b ↔ a = b := ⟨fun h => (List.map_inj_right (fun a b e => by cases a; cases b; simpa using e)).1 h, fun h => h ▸ rfl⟩
attribute [simp] nms_inj
noncomputable def B1 : Orc := A9.add 31 (tab (fun x : List Nm => [.sl .any (nms x), .fn (.func 30) [] []]) (fun x => .sl .any (nms (sortN x))) fun x => x.length ≤ 1048576)
theorem B1s : OSound Try.prog B1 := A9s.tab fun x h st => sorted_spec x h st
@[simp] theorem B1_31 (l : List Nm) (h : l.length ≤ 1048576) : B1 31 [.sl .any (nms l), .fn (.func 30) [] []] = some (.sl .any (nms (sortN l))) := by
  rw [B1, Orc.add_same]
  exact tab_eq (fun x y h => by simp at h; simp [h]) (x := (l)) h
@[simp] theorem B1_o (f : Nat) (args : List AV) (h : f ≠ 31) : B1 f args = A9 f args := by
  rw [B1, Orc.add_other _ _ _ _ _ h]
def cntV (l : List Nm) (n : Nm) : AV := .int .i64 (l.count n)
def mB (l : List Nm) : Blk := .map (encM nmA (ddS l) (cntV l)) (ddS l).length
theorem cnt_step (l : List Nm) (i : Nat) (h : i < l.length) (n : Nm) : (l.take (i + 1)).count n = (l.take i).count n + if n = l[i] then 1 else 0 := by
  rw [List.take_succ_eq_append_getElem h, List.count_append]
  congr 1
  rw [List.count_cons, List.count_nil]
  by_cases e : n = l[i]
  · simp [e]
  · have : ¬ l[i] = n := fun h => e h.symm
    simp [e, this]
theorem sort_spec (l : List Nm) (hl : l.length ≤ 1000000) (st : St) : ASpec Try.prog 12 [.sl .any (nms l)] st fun v st' => v = .sl .any (nms (sortU l)) ∧ st' = st := by
  refine pure_of (R := fun v => v = _) B1s F12 rfl ?_
  have hl1 : l.length ≤ 1048576 := by omega
  have hsl := sortN_length l
  unfold sortU
  obtain ⟨S, hS⟩ : ∃ S, sortN l = S := ⟨_, rfl⟩
  rw [hS] at hsl ⊢
  simp (disch := first | omega | (simp only [List.length_take, List.length_drop, List.length_append, List.length_cons, List.length_nil, List.length_map]; omega)) [IntWalk.i64_in, IntWalk.i64_quo, c12, hl1, hS]
  refine awC_loopOwnW 2 3 [] (by simp) (fun k env s => ∃ i g, k + i = S.length ∧ env 2 = .sl (.own st.toks.length) (nms (ddS (S.take i))) ∧ env 3 = .map (some st.heap.length) ∧ env 8 = .sl .any (nms S) ∧ env 9 = .int .i64 S.length ∧ env 10 = .int .i64 i ∧ s = ⟨st.heap ++ mB (S.take i) :: g, st.toks ++ [((ddS (S.take i)).length, 3)]⟩) S.length ?_ ?_
  · exact ⟨0, [], by simp [ddS, mB]⟩
  rintro k env s ⟨i, g, hk, e2, e3, e8, e9, e10, rfl⟩
  by_cases hi : i < S.length
  case neg =>
    have hi' : ¬ (i : Int) < S.length := by omega
    rw [List.take_of_length_le (by omega)] at e2
    simp (disch := first | omega | (simp only [List.length_take, List.length_drop, List.length_append, List.length_cons, List.length_nil, List.length_map]; omega)) [IntWalk.i64_in, IntWalk.i64_quo, e2, e3, e8, e9, e10, hi']
  have hi' : (i : Int) < S.length := by omega
  obtain ⟨x, hx⟩ : ∃ x, S[i] = x := ⟨_, rfl⟩
  have hst := ddS_step S i hi
  have hct := cnt_step S i hi
  rw [hx] at hst hct
  have hdl := ddS_length (S.take i)
  have hcl : (S.take i).count x ≤ (S.take i).length := List.count_le_length
  rw [List.length_take] at hdl hcl
  have hnd := nodup_ddS (S.take i)
  have hmem := mem_ddS (y := x) (S.take i)
  have hc1 := hct x
  rw [if_pos rfl] at hc1
  unfold mB
  by_cases hin : x ∈ ddS (S.take i)
  · rw [if_pos hin] at hst
    obtain ⟨j, hj1, hj2⟩ := idx_some hin
    have hjl : j < (ddS (S.take i)).length := (List.getElem?_eq_some_iff.1 hj2).1
    have g1 := getA_enc nm_key (.int .i64 0) false (ddS (S.take i)) (cntV (S.take i)) x
    rw [if_pos hin] at g1
    have g2 := entA_in nm_key (.int .i64 0) (ddS (S.take i)) (cntV (S.take i)) hnd hj1 hj2
    have g3 := bornA_enc nmA (ddS (S.take i)) (cntV (S.take i)) j hjl
    have g4 : (encM nmA (ddS (S.take i)) (cntV (S.take i)))[j]? = some (nmA x, cntV (S.take i) x, j) := by rw [encM_get, hj2]; rfl
    have g5 := encM_set nmA (ddS (S.take i)) (cntV (S.take i)) j x (.int .i64 ((S.take i).count x + 1)) hj2 hnd
    have g6 : (fun y => if y = x then (AV.int .i64 ((S.take i).count x + 1)) else cntV (S.take i) y) = cntV (S.take (i + 1)) := by
      funext y
      show _ = AV.int .i64 ((S.take (i + 1)).count y)
      rw [hct y]
      by_cases e : y = x
      · subst e; simp
      · simp [e, cntV]
    rw [g6] at g5
    have g7 := getA_enc nm_key (.int .i64 0) false (ddS (S.take i)) (cntV (S.take (i + 1))) x
    rw [if_pos hin] at g7
    have hpos : 0 < (S.take i).count x := List.count_pos_iff.2 (hmem.1 hin)
    have hne : ¬ ((S.take i).count x : Int) + 1 = 1 := by omega
    have hcv : cntV (S.take i) x = .int .i64 ((S.take i).count x) := rfl
    have hcv' : cntV (S.take (i + 1)) x = .int .i64 ((S.take i).count x + 1) := by rw [cntV, hc1]; rfl
    simp only [nmA, mapRes_f, hcv, hcv'] at g1 g2 g4 g5 g7
    simp (disch := first | omega | (simp only [List.length_take, List.length_drop, List.length_append, List.length_cons, List.length_nil, List.length_map]; omega)) [IntWalk.i64_in, IntWalk.i64_quo, e2, e3, e8, e9, e10, hi, hi', hx]
    refine region_static rfl (by decide +kernel) ?_
    simp (disch := first | omega | (simp only [List.length_take, List.length_drop, List.length_append, List.length_cons, List.length_nil, List.length_map]; omega)) [IntWalk.i64_in, IntWalk.i64_quo, e2, e3, e8, e9, e10, g1, g2, g3, g4, g5, g7]
    simp (disch := first | omega | (simp only [List.length_take, List.length_drop, List.length_append, List.length_cons, List.length_nil, List.length_map]; omega)) [IntWalk.i64_in, IntWalk.i64_quo, e2, e3, e8, e9, e10, hne]
    exact ⟨k - 1, by omega, i + 1, by omega, by rw [hst], by omega, by rw [hst], by rw [hst]⟩
  · rw [if_neg hin] at hst
    have g1 := getA_enc nm_key (.int .i64 0) false (ddS (S.take i)) (cntV (S.take i)) x
    rw [if_neg hin] at g1
    have g2 := entA_out nm_key (.int .i64 0) (ddS (S.take i)) (cntV (S.take i)) hin
    have hlast : (ddS (S.take i) ++ [x])[(ddS (S.take i)).length]? = some x := by simp
    have hnd' : (ddS (S.take i) ++ [x]).Nodup := by rw [← hst]; exact nodup_ddS _
    have g3 := bornA_enc nmA (ddS (S.take i) ++ [x]) (fun y => if y = x then (AV.int .i64 0) else cntV (S.take i) y) (ddS (S.take i)).length (by simp)
    have g4 : (encM nmA (ddS (S.take i) ++ [x]) (fun y => if y = x then (AV.int .i64 0) else cntV (S.take i) y))[(ddS (S.take i)).length]? = some (nmA x, .int .i64 0, (ddS (S.take i)).length) := by rw [encM_get, hlast]; simp
    have g5 := encM_set nmA (ddS (S.take i) ++ [x]) (fun y => if y = x then (AV.int .i64 0) else cntV (S.take i) y) (ddS (S.take i)).length x (.int .i64 1) hlast hnd'
    have h0 : (S.take i).count x = 0 := List.count_eq_zero.2 fun h => hin (hmem.2 h)
    have g6 : (fun y => if y = x then (AV.int .i64 1) else if y = x then (AV.int .i64 0) else cntV (S.take i) y) = cntV (S.take (i + 1)) := by
      funext y
      show _ = AV.int .i64 ((S.take (i + 1)).count y)
      rw [hct y]
      by_cases e : y = x
      · subst e; simp [h0]
      · simp [e, cntV]
    rw [g6] at g5
    have g7 := getA_enc nm_key (.int .i64 0) false (ddS (S.take i) ++ [x]) (cntV (S.take (i + 1))) x
    rw [if_pos (by simp)] at g7
    have hcv' : cntV (S.take (i + 1)) x = .int .i64 1 := by rw [cntV, hc1, h0]; rfl
    simp only [nmA, mapRes_f, hcv'] at g1 g2 g4 g5 g7
    simp (disch := first | omega | (simp only [List.length_take, List.length_drop, List.length_append, List.length_cons, List.length_nil, List.length_map]; omega)) [IntWalk.i64_in, IntWalk.i64_quo, e2, e3, e8, e9, e10, hi, hi', hx]
    refine region_static rfl (by decide +kernel) ?_
    simp (disch := first | omega | (simp only [List.length_take, List.length_drop, List.length_append, List.length_cons, List.length_nil, List.length_map]; omega)) [IntWalk.i64_in, IntWalk.i64_quo, e2, e3, e8, e9, e10, g1, g2, g3, g4, g5, g7, nms_snoc]
    exact ⟨by omega, k - 1, by omega, i + 1, by omega, hst.symm, by omega, by rw [hst], by rw [hst]; simp⟩
end Go.Proofs.Ythfjkapkjidebaa

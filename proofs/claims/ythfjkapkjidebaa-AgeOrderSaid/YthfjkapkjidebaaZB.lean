/- Names put in order. -/
import Derived.Test.YthfjkapkjidebaaZA
set_option linter.all false
namespace Go.Proofs.Ythfjkapkjidebaa
open Go.Am

def posN (x : Nm) (out : List Nm) : Nat → Nat
  | 0 => 0
  | k + 1 => if lessN x (out.getD k x) = true then posN x out k else k + 1
theorem posN_le (x : Nm) (out : List Nm) : ∀ k, posN x out k ≤ k
  | 0 => Nat.le_refl _
  | k + 1 => by
    rw [posN]
    split
    · exact Nat.le_succ_of_le (posN_le x out k)
    · exact Nat.le_refl _
def insN (x : Nm) (out : List Nm) : List Nm := out.take (posN x out out.length) ++ x :: out.drop (posN x out out.length)
theorem insN_length (x : Nm) (out : List Nm) : (insN x out).length = out.length + 1 := by
  have := posN_le x out out.length
  simp [insN]
  omega
def sortN (l : List Nm) : List Nm := l.foldl (fun o x => insN x o) []
theorem sortN_step (l : List Nm) (i : Nat) (h : i < l.length) : sortN (l.take (i + 1)) = insN l[i] (sortN (l.take i)) := by
  rw [List.take_succ_eq_append_getElem h, sortN, List.foldl_append]
  rfl
theorem foldIns_length : ∀ (l o : List Nm), (l.foldl (fun o x => insN x o) o).length = o.length + l.length
  | [], o => rfl
  | x :: l, o => by
    rw [List.foldl_cons, foldIns_length l, insN_length, List.length_cons]
    omega
theorem sortN_length (l : List Nm) : (sortN l).length = l.length := by
  rw [sortN, foldIns_length]
  simp
theorem sorted_spec (l : List Nm) (hl : l.length ≤ 1048576) (st : St) : ASpec Try.prog 31 [.sl .any (nms l), .fn (.func 30) [] []] st fun v st' => v = .sl .any (nms (sortN l)) ∧ st' = st := by
  refine pure_of (R := fun v => v = _) A9s F31 rfl ?_
  simp (disch := first | omega | (simp only [List.length_take, List.length_drop, List.length_append, List.length_cons, List.length_nil, List.length_map]; omega)) [IntWalk.i64_in, IntWalk.i64_quo, c31]
  refine awC_loopW (fun k env s => ∃ i t g gt, k + i = l.length ∧ env 1 = .fn (.func 30) [] [] ∧ env 5 = .sl t (nms (sortN (l.take i))) ∧ env 9 = .sl .any (nms l) ∧ env 10 = .int .i64 l.length ∧ env 11 = .int .i64 i ∧ s = ⟨st.heap ++ g, st.toks ++ gt⟩) l.length ?_ ?_
  · exact ⟨0, .clip, [], [], by simp [sortN]⟩
  rintro k env s ⟨i, t, g, gt, hk, e1, e5, e9, e10, e11, rfl⟩
  by_cases hi : i < l.length
  case neg =>
    have hi' : ¬ (i : Int) < l.length := by omega
    rw [List.take_of_length_le (by omega)] at e5
    simp (disch := first | omega | (simp only [List.length_take, List.length_drop, List.length_append, List.length_cons, List.length_nil, List.length_map]; omega)) [IntWalk.i64_in, IntWalk.i64_quo, e1, e5, e9, e10, e11, hi']
  have hi' : (i : Int) < l.length := by omega
  obtain ⟨out, hout⟩ : ∃ out, sortN (l.take i) = out := ⟨_, rfl⟩
  have hol : out.length = i := by rw [← hout, sortN_length, List.length_take]; omega
  have hst := sortN_step l i hi
  rw [hout] at e5 hst
  obtain ⟨x, hx⟩ : ∃ x, l[i] = x := ⟨_, rfl⟩
  rw [hx] at hst
  simp (disch := first | omega | (simp only [List.length_take, List.length_drop, List.length_append, List.length_cons, List.length_nil, List.length_map]; omega)) [IntWalk.i64_in, IntWalk.i64_quo, e1, e5, e9, e10, e11, hi, hi', hx]
  refine awC_loopW (fun j env s => ∃ g gt, j ≤ out.length ∧ env 1 = .fn (.func 30) [] [] ∧ env 5 = .sl t (nms out) ∧ env 7 = .ptr (st.heap.length + g.length) 0 ∧ env 8 = .int .i64 j ∧ env 9 = .sl .any (nms l) ∧ env 10 = .int .i64 l.length ∧ env 11 = .int .i64 i ∧ s = ⟨st.heap ++ (g ++ [.cells false (nmC x)]), st.toks ++ gt⟩ ∧ posN x out out.length = posN x out j) out.length ?_ ?_
  · exact ⟨g, gt, by simp [e1, e5, e9, e10, e11]⟩
  rintro j env s ⟨g, gt, hj, f1, f5, f7, f8, f9, f10, f11, rfl, hp⟩
  cases j with
  | zero =>
    have hjl : 0 ≤ out.length := by omega
    have hp : posN x out out.length = 0 := hp
    simp (disch := first | omega | (simp only [List.length_take, List.length_drop, List.length_append, List.length_cons, List.length_nil, List.length_map]; omega)) [IntWalk.i64_in, IntWalk.i64_quo, f1, f5, f7, f8, f9, f10, f11]
    refine region_static rfl (by decide +kernel) ?_
    simp (disch := first | omega | (simp only [List.length_take, List.length_drop, List.length_append, List.length_cons, List.length_nil, List.length_map]; omega)) [IntWalk.i64_in, IntWalk.i64_quo, f1, f5, f7, f8, f9, f10, f11]
    have hins : nms (out.take (0)) ++ (.agg [.int .i64 x.stamp, .int .i64 x.inc, .int .i64 x.tr] :: nms (out.drop (0))) = nms (insN x out) := by
      rw [insN, hp]
      simp [nms]
    refine region_static rfl (by decide +kernel) ?_
    simp (disch := first | omega | (simp only [List.length_take, List.length_drop, List.length_append, List.length_cons, List.length_nil, List.length_map]; omega)) [IntWalk.i64_in, IntWalk.i64_quo, f1, f5, f7, f8, f9, f10, f11, hjl, hins]
    refine ⟨by omega, by omega, k - 1, by omega, i + 1, by omega, ?_, by omega⟩
    rw [hst, ← hins]
    simp [nms]
  | succ j =>
    have hjl : j + 1 ≤ out.length := by omega
    have hj1 : j < out.length := by omega
    have hjp : (0 : Int) < (j : Int) + 1 := by omega
    have hgd : out.getD j x = out[j] := by simp [List.getD, hj1]
    rw [posN, hgd] at hp
    by_cases hless : lessN x out[j] = true
    · rw [if_pos hless] at hp
      simp (disch := first | omega | (simp only [List.length_take, List.length_drop, List.length_append, List.length_cons, List.length_nil, List.length_map]; omega)) [IntWalk.i64_in, IntWalk.i64_quo, f1, f5, f7, f8, f9, f10, f11, hjp]
      refine region_static rfl (by decide +kernel) ?_
      simp (disch := first | omega | (simp only [List.length_take, List.length_drop, List.length_append, List.length_cons, List.length_nil, List.length_map]; omega)) [IntWalk.i64_in, IntWalk.i64_quo, f1, f5, f7, f8, f9, f10, f11, hjp, hj1, hless]
      exact ⟨j, by omega, by omega, g, rfl, rfl, rfl, hp⟩
    · rw [if_neg hless] at hp
      simp (disch := first | omega | (simp only [List.length_take, List.length_drop, List.length_append, List.length_cons, List.length_nil, List.length_map]; omega)) [IntWalk.i64_in, IntWalk.i64_quo, f1, f5, f7, f8, f9, f10, f11, hjp]
      refine region_static rfl (by decide +kernel) ?_
      simp (disch := first | omega | (simp only [List.length_take, List.length_drop, List.length_append, List.length_cons, List.length_nil, List.length_map]; omega)) [IntWalk.i64_in, IntWalk.i64_quo, f1, f5, f7, f8, f9, f10, f11, hjp, hj1, hless]
      have hins : nms (out.take (j + 1)) ++ (.agg [.int .i64 x.stamp, .int .i64 x.inc, .int .i64 x.tr] :: nms (out.drop (j + 1))) = nms (insN x out) := by
        rw [insN, hp]
        simp [nms]
      refine region_static rfl (by decide +kernel) ?_
      simp (disch := first | omega | (simp only [List.length_take, List.length_drop, List.length_append, List.length_cons, List.length_nil, List.length_map]; omega)) [IntWalk.i64_in, IntWalk.i64_quo, f1, f5, f7, f8, f9, f10, f11, hjl, hins]
      refine ⟨by omega, by omega, by omega, by omega, by omega, k - 1, by omega, i + 1, by omega, ?_, by omega⟩
      have htd : (out.drop (j + 1)).take (out.length - (j + 1)) = out.drop (j + 1) := List.take_of_length_le (by simp)
      rw [hst, ← hins, htd]

/-! The order of what comes out. -/
theorem mem_insN {x y : Nm} {out : List Nm} : y ∈ insN x out ↔ y = x ∨ y ∈ out := by
  rw [insN]
  conv => rhs; rw [← List.take_append_drop (posN x out out.length) out]
  simp only [List.mem_append, List.mem_cons]
  constructor
  · rintro (h | h | h)
    · exact .inr (.inl h)
    · exact .inl h
    · exact .inr (.inr h)
  · rintro (h | h | h)
    · exact .inr (.inl h)
    · exact .inl h
    · exact .inr (.inr h)
theorem mem_foldIns {y : Nm} : ∀ (l o : List Nm), y ∈ l.foldl (fun o x => insN x o) o ↔ y ∈ l ∨ y ∈ o
  | [], o => by simp
  | x :: l, o => by
    rw [List.foldl_cons, mem_foldIns l, mem_insN, List.mem_cons]
    constructor
    · rintro (h | h | h)
      · exact .inl (.inr h)
      · exact .inl (.inl h)
      · exact .inr h
    · rintro ((h | h) | h)
      · exact .inr (.inl h)
      · exact .inl h
      · exact .inr (.inr h)
theorem mem_sortN {y : Nm} (l : List Nm) : y ∈ sortN l ↔ y ∈ l := by simp [sortN, mem_foldIns]
/-- Nobody stands ahead of a lesser one. -/
def Rise (l : List Nm) : Prop := l.Pairwise fun a b => lessN b a = false
theorem pos_facts (x : Nm) (out : List Nm) : ∀ k, k ≤ out.length → (∀ j, k ≤ j → ∀ (h : j < out.length), lessN x out[j] = true) → (∀ j, posN x out k ≤ j → ∀ (h : j < out.length), lessN x out[j] = true) ∧ (∀ (h : posN x out k - 1 < out.length), 0 < posN x out k → lessN x out[posN x out k - 1] = false)
  | 0, _, h => ⟨fun j _ hj => h j (by omega) hj, fun _ hp => by simp [posN] at hp⟩
  | k + 1, hk, h => by
    have hg : out.getD k x = out[k] := by simp [List.getD, show k < out.length by omega]
    rw [posN, hg]
    split
    · rename_i hl
      refine pos_facts x out k (by omega) fun j hj hjl => ?_
      by_cases e : j = k
      · subst e; exact hl
      · exact h j (by omega) hjl
    · rename_i hl
      exact ⟨fun j hj hjl => h j hj hjl, fun _ _ => by simpa using hl⟩
theorem rise_insAt {x : Nm} {out : List Nm} (h : Rise out) {p : Nat} (hle : p ≤ out.length) (p1 : ∀ j, p ≤ j → ∀ (h : j < out.length), lessN x out[j] = true) (p2 : ∀ (h : p - 1 < out.length), 0 < p → lessN x out[p - 1] = false) : Rise (out.take p ++ x :: out.drop p) := by
  unfold Rise at *
  have h' := h
  rw [← List.take_append_drop p out, List.pairwise_append] at h'
  obtain ⟨h1, h2, h3⟩ := h'
  rw [List.pairwise_append, List.pairwise_cons]
  refine ⟨h1, ⟨fun b hb => ?_, h2⟩, fun a ha b hb => ?_⟩
  · obtain ⟨j, hj, rfl⟩ := List.mem_iff_getElem.1 hb
    simp only [List.length_drop] at hj
    rw [List.getElem_drop]
    exact lessN_asymm (p1 (p + j) (by omega) (by omega))
  · rcases List.mem_cons.1 hb with rfl | hb
    · obtain ⟨j, hj, rfl⟩ := List.mem_iff_getElem.1 ha
      simp only [List.length_take] at hj
      rw [List.getElem_take]
      have hp := p2 (by omega) (by omega)
      rw [← Bool.not_eq_true]
      intro hx
      by_cases hjp : j = p - 1
      · subst hjp
        rw [hp] at hx
        cases hx
      · have hr := List.pairwise_iff_getElem.1 h j (p - 1) (by omega) (by omega) (by omega)
        by_cases hq : lessN out[j] out[p - 1] = true
        · rw [lessN_trans hx hq] at hp
          cases hp
        · have := lessN_eq (by simpa using hq) hr
          rw [this, hp] at hx
          cases hx
    · exact h3 a ha b hb
theorem rise_ins {x : Nm} {out : List Nm} (h : Rise out) : Rise (insN x out) := by
  obtain ⟨p1, p2⟩ := pos_facts x out out.length (Nat.le_refl _) (fun j hj hjl => by omega)
  exact rise_insAt h (posN_le x out out.length) p1 p2
theorem rise_fold : ∀ (l o : List Nm), Rise o → Rise (l.foldl (fun o x => insN x o) o)
  | [], o, h => h
  | x :: l, o, h => rise_fold l _ (rise_ins h)
theorem rise_sortN (l : List Nm) : Rise (sortN l) := rise_fold l [] (by simp [Rise])
/-- Each once, where it stands first. -/
def ddS (l : List Nm) : List Nm := l.foldl (fun o x => if x ∈ o then o else o ++ [x]) []
theorem ddS_step (l : List Nm) (i : Nat) (h : i < l.length) : ddS (l.take (i + 1)) = if l[i] ∈ ddS (l.take i) then ddS (l.take i) else ddS (l.take i) ++ [l[i]] := by
  rw [List.take_succ_eq_append_getElem h, ddS, List.foldl_append]
  rfl
theorem mem_foldDd {y : Nm} : ∀ (l o : List Nm), y ∈ l.foldl (fun o x => if x ∈ o then o else o ++ [x]) o ↔ y ∈ l ∨ y ∈ o
  | [], o => by simp
  | x :: l, o => by
    rw [List.foldl_cons, mem_foldDd l]
    by_cases h : x ∈ o
    · rw [if_pos h, List.mem_cons]
      constructor
      · rintro (h1 | h1)
        · exact .inl (.inr h1)
        · exact .inr h1
      · rintro ((rfl | h1) | h1)
        · exact .inr h
        · exact .inl h1
        · exact .inr h1
    · rw [if_neg h, List.mem_cons, List.mem_append, List.mem_singleton]
      constructor
      · rintro (h1 | h1 | h1)
        · exact .inl (.inr h1)
        · exact .inr h1
        · exact .inl (.inl h1)
      · rintro ((h1 | h1) | h1)
        · exact .inr (.inr h1)
        · exact .inl h1
        · exact .inr (.inl h1)
theorem mem_ddS {y : Nm} (l : List Nm) : y ∈ ddS l ↔ y ∈ l := by simp [ddS, mem_foldDd]
theorem nodup_fold : ∀ (l o : List Nm), o.Nodup → (l.foldl (fun o x => if x ∈ o then o else o ++ [x]) o).Nodup
  | [], o, h => h
  | x :: l, o, h => by
    rw [List.foldl_cons]
    apply nodup_fold l
    split
    · exact h
    · rename_i hx
      rw [List.nodup_append]
      exact ⟨h, by simp, fun a ha b hb => by simp at hb; subst hb; exact fun e => hx (e ▸ ha)⟩
theorem nodup_ddS (l : List Nm) : (ddS l).Nodup := nodup_fold l [] List.nodup_nil
theorem len_fold : ∀ (l o : List Nm), (l.foldl (fun o x => if x ∈ o then o else o ++ [x]) o).length ≤ o.length + l.length
  | [], o => by simp
  | x :: l, o => by
    rw [List.foldl_cons]
    refine Nat.le_trans (len_fold l _) ?_
    rw [List.length_cons]
    split
    · omega
    · rw [List.length_append, List.length_singleton]; omega
theorem ddS_length (l : List Nm) : (ddS l).length ≤ l.length := by
  have := len_fold l []
  simpa [ddS] using this
theorem sub_fold : ∀ (l o : List Nm) (r : List Nm), o.Sublist r → (l.foldl (fun o x => if x ∈ o then o else o ++ [x]) o).Sublist (r ++ l)
  | [], o, r, h => by simpa using h
  | x :: l, o, r, h => by
    rw [List.foldl_cons, show r ++ x :: l = (r ++ [x]) ++ l by simp]
    apply sub_fold l
    split
    · exact h.trans (List.sublist_append_left _ _)
    · exact h.append (List.Sublist.refl _)
theorem ddS_sub (l : List Nm) : (ddS l).Sublist l := by simpa [ddS] using sub_fold l [] [] (List.Sublist.refl _)
/-- Names in their order, each once. -/
def sortU (l : List Nm) : List Nm := ddS (sortN l)
theorem mem_sortU {y : Nm} (l : List Nm) : y ∈ sortU l ↔ y ∈ l := by rw [sortU, mem_ddS, mem_sortN]
theorem sortU_length (l : List Nm) : (sortU l).length ≤ l.length := by
  have := ddS_length (sortN l)
  rw [sortN_length] at this
  exact this
theorem sortU_rise (l : List Nm) : (sortU l).Pairwise fun a b => lessN a b = true := by
  have h1 : Rise (sortU l) := (rise_sortN l).sublist (ddS_sub _)
  have h2 : (sortU l).Pairwise fun a b => a ≠ b := nodup_ddS _
  refine (h1.and h2).imp fun {a b} h => ?_
  obtain ⟨h3, h4⟩ := h
  by_cases h5 : lessN a b = true
  · exact h5
  · exact absurd (lessN_eq (by simpa using h5) h3) h4
end Go.Proofs.Ythfjkapkjidebaa

/- Epochs: what is stamped is taken. -/
import Derived.Test.YtbmcgfdopaaiiaaZP
set_option linter.all false
namespace Go.Proofs.Ytbmcgfdopaaiiaa
open Go.Am

def getO (a0 a1 a2 a3 a4 n : Int) : Int := if n = 0 then a0 else if n = 1 then a1 else if n = 2 then a2 else if n = 3 then a3 else a4
theorem getK_O (k : Kn) (n : Int) : getK k n = getO k.o0 k.o1 k.o2 k.o3 k.o4 n := rfl
theorem kn_load5 (a0 a1 a2 a3 a4 n : Int) (h : 0 ≤ n ∧ n ≤ 4) : ([.int .i64 a0, .int .i64 a1, .int .i64 a2, .int .i64 a3, .int .i64 a4] : List AV)[n.toNat]? = some (.int .i64 (getO a0 a1 a2 a3 a4 n)) := by
  obtain rfl | rfl | rfl | rfl | rfl : n = 0 ∨ n = 1 ∨ n = 2 ∨ n = 3 ∨ n = 4 := by omega
  all_goals rfl
theorem kn_load7 (nd ic a0 a1 a2 a3 a4 n : Int) (h : 0 ≤ n ∧ n ≤ 4) : ([.int .i64 nd, .int .i64 ic, .int .i64 a0, .int .i64 a1, .int .i64 a2, .int .i64 a3, .int .i64 a4] : List AV)[2 + n.toNat]? = some (.int .i64 (getO a0 a1 a2 a3 a4 n)) := by
  obtain rfl | rfl | rfl | rfl | rfl : n = 0 ∨ n = 1 ∨ n = 2 ∨ n = 3 ∨ n = 4 := by omega
  all_goals rfl
theorem kn_get5 (a0 a1 a2 a3 a4 n : Int) (h : ([.int .i64 a0, .int .i64 a1, .int .i64 a2, .int .i64 a3, .int .i64 a4] : List AV).length > n.toNat) (h0 : 0 ≤ n) : ([.int .i64 a0, .int .i64 a1, .int .i64 a2, .int .i64 a3, .int .i64 a4] : List AV)[n.toNat]'h = .int .i64 (getO a0 a1 a2 a3 a4 n) := by
  have := kn_load5 a0 a1 a2 a3 a4 n (by simp at h; omega)
  exact (List.getElem?_eq_some_iff.1 this).2
theorem kn_get7 (nd ic a0 a1 a2 a3 a4 n : Int) (h : ([.int .i64 nd, .int .i64 ic, .int .i64 a0, .int .i64 a1, .int .i64 a2, .int .i64 a3, .int .i64 a4] : List AV).length > 2 + n.toNat) (h0 : 0 ≤ n) : ([.int .i64 nd, .int .i64 ic, .int .i64 a0, .int .i64 a1, .int .i64 a2, .int .i64 a3, .int .i64 a4] : List AV)[2 + n.toNat]'h = .int .i64 (getO a0 a1 a2 a3 a4 n) := by
  have := kn_load7 nd ic a0 a1 a2 a3 a4 n (by simp at h; omega)
  exact (List.getElem?_eq_some_iff.1 this).2
theorem getK_set (k : Kn) (n v : Int) (h : 0 ≤ n ∧ n ≤ 4) : getK (setK k n v) n = v := by
  obtain rfl | rfl | rfl | rfl | rfl : n = 0 ∨ n = 1 ∨ n = 2 ∨ n = 3 ∨ n = 4 := by omega
  all_goals rfl
theorem lmeets_x (a b : Kn) (m x : Ms) (hg : ¬ 40 < m.ws.length) (hl : m.ws.length ≤ 1048576) (hxl : x.ws.length ≤ 1048576) (ha : mayK a = true) (hb : mayK b = true) (ht : (m.to = b.node) = True) (hn : (a.node = b.node) = False) (hS : stampR a m = (x, 0)) (b1 : 0 ≤ a.node ∧ a.node ≤ 4) (b2 : 0 ≤ b.node ∧ b.node ≤ 4)
    (hH : mayM x = true → ¬ (getK a b.node ≠ 0 ∧ getK a b.node ≠ b.inc) → ¬ a.inc < getK b a.node → ∃ o N, hearR b x = (o, N, 0) ∧ 0 < N ∧ getK o a.node = a.inc) (st : St) :
    ASpec Try.prog 5 [.agg (knC a), .agg (knC b), .agg (msC m)] st fun v st' => v = .bool true ∧ st' = st := by
  refine pure_of (R := fun v => v = _) C10s F5 rfl ?_
  cases hx : mayM x
  · simp (disch := first | omega | (simp only [List.length_take, List.length_drop, List.length_append, List.length_cons, List.length_nil, List.length_map]; omega)) [IntWalk.i64_in, IntWalk.i64_quo, c5, hg, ha, hb, ht, hn, hS]
    refine region_static rfl (by decide +kernel) ?_
    simp (disch := first | omega | (simp only [List.length_take, List.length_drop, List.length_append, List.length_cons, List.length_nil, List.length_map]; omega)) [IntWalk.i64_in, IntWalk.i64_quo, hx, hxl]
  obtain ⟨A, hA⟩ : ∃ A, getK a b.node = A := ⟨_, rfl⟩
  obtain ⟨B, hB⟩ : ∃ B, getK b a.node = B := ⟨_, rfl⟩
  rw [hA, hB] at hH
  rw [getK_O] at hA hB
  have c1 : 0 ≤ a.node := b1.1
  have c2 : a.node < 5 := by omega
  have c3 : 0 ≤ b.node := b2.1
  have c4 : b.node < 5 := by omega
  by_cases h1 : A ≠ 0 ∧ A ≠ b.inc
  · simp (disch := first | omega | (simp only [List.length_take, List.length_drop, List.length_append, List.length_cons, List.length_nil, List.length_map]; omega)) [IntWalk.i64_in, IntWalk.i64_quo, c5, hg, ha, hb, ht, hn, hS]
    refine region_static rfl (by decide +kernel) ?_
    simp (disch := first | omega | (simp only [List.length_take, List.length_drop, List.length_append, List.length_cons, List.length_nil, List.length_map]; omega)) [IntWalk.i64_in, IntWalk.i64_quo, hx, hxl, kn_get5, kn_get7, c1, c2, c3, c4, hA, h1]
  by_cases h2 : a.inc < B
  · simp (disch := first | omega | (simp only [List.length_take, List.length_drop, List.length_append, List.length_cons, List.length_nil, List.length_map]; omega)) [IntWalk.i64_in, IntWalk.i64_quo, c5, hg, ha, hb, ht, hn, hS]
    refine region_static rfl (by decide +kernel) ?_
    simp (disch := first | omega | (simp only [List.length_take, List.length_drop, List.length_append, List.length_cons, List.length_nil, List.length_map]; omega)) [IntWalk.i64_in, IntWalk.i64_quo, hx, hxl, kn_get5, kn_get7, c1, c2, c3, c4, hA, hB, h2]
    repeat' first
      | (refine region_static rfl (by decide +kernel) ?_; try simp (disch := first | omega | (simp only [List.length_take, List.length_drop, List.length_append, List.length_cons, List.length_nil, List.length_map]; omega)) [IntWalk.i64_in, IntWalk.i64_quo, hx, hxl, kn_get5, kn_get7, c1, c2, c3, c4, hA, hB, h2])
      | (refine And.intro (by omega) ?_; try simp (disch := first | omega | (simp only [List.length_take, List.length_drop, List.length_append, List.length_cons, List.length_nil, List.length_map]; omega)) [IntWalk.i64_in, IntWalk.i64_quo, hx, hxl, kn_get5, kn_get7, c1, c2, c3, c4, hA, hB, h2])
      | (refine guardK_ndec (fun h => ?_) (fun h => ?_) <;> (try simp (disch := first | omega | (simp only [List.length_take, List.length_drop, List.length_append, List.length_cons, List.length_nil, List.length_map]; omega)) [h, IntWalk.i64_in, IntWalk.i64_quo, hx, hxl, kn_get5, kn_get7, c1, c2, c3, c4, hA, hB, h2]))
      | (refine guardK_dec (fun h => ?_) (fun h => ?_) <;> (try simp (disch := first | omega | (simp only [List.length_take, List.length_drop, List.length_append, List.length_cons, List.length_nil, List.length_map]; omega)) [h, IntWalk.i64_in, IntWalk.i64_quo, hx, hxl, kn_get5, kn_get7, c1, c2, c3, c4, hA, hB, h2]))
      | (refine guardK_nbeq (fun h => ?_) (fun h => ?_) <;> (try simp (disch := first | omega | (simp only [List.length_take, List.length_drop, List.length_append, List.length_cons, List.length_nil, List.length_map]; omega)) [h, IntWalk.i64_in, IntWalk.i64_quo, hx, hxl, kn_get5, kn_get7, c1, c2, c3, c4, hA, hB, h2]))
      | (refine guardK_beq (fun h => ?_) (fun h => ?_) <;> (try simp (disch := first | omega | (simp only [List.length_take, List.length_drop, List.length_append, List.length_cons, List.length_nil, List.length_map]; omega)) [h, IntWalk.i64_in, IntWalk.i64_quo, hx, hxl, kn_get5, kn_get7, c1, c2, c3, c4, hA, hB, h2]))
      | (refine guardK_bne (fun h => ?_) (fun h => ?_) <;> (try simp (disch := first | omega | (simp only [List.length_take, List.length_drop, List.length_append, List.length_cons, List.length_nil, List.length_map]; omega)) [h, IntWalk.i64_in, IntWalk.i64_quo, hx, hxl, kn_get5, kn_get7, c1, c2, c3, c4, hA, hB, h2]))
      | (refine guardK_not (fun h => ?_) (fun h => ?_) <;> (try simp (disch := first | omega | (simp only [List.length_take, List.length_drop, List.length_append, List.length_cons, List.length_nil, List.length_map]; omega)) [h, IntWalk.i64_in, IntWalk.i64_quo, hx, hxl, kn_get5, kn_get7, c1, c2, c3, c4, hA, hB, h2]))
      | (refine guardK_split (fun h => ?_) (fun h => ?_) <;> (try simp (disch := first | omega | (simp only [List.length_take, List.length_drop, List.length_append, List.length_cons, List.length_nil, List.length_map]; omega)) [h, IntWalk.i64_in, IntWalk.i64_quo, hx, hxl, kn_get5, kn_get7, c1, c2, c3, c4, hA, hB, h2]))
      | (refine condK_ndec (fun h => ?_) (fun h => ?_) <;> (try simp (disch := first | omega | (simp only [List.length_take, List.length_drop, List.length_append, List.length_cons, List.length_nil, List.length_map]; omega)) [h, IntWalk.i64_in, IntWalk.i64_quo, hx, hxl, kn_get5, kn_get7, c1, c2, c3, c4, hA, hB, h2]))
      | (refine condK_dec (fun h => ?_) (fun h => ?_) <;> (try simp (disch := first | omega | (simp only [List.length_take, List.length_drop, List.length_append, List.length_cons, List.length_nil, List.length_map]; omega)) [h, IntWalk.i64_in, IntWalk.i64_quo, hx, hxl, kn_get5, kn_get7, c1, c2, c3, c4, hA, hB, h2]))
      | (refine condK_nbeq (fun h => ?_) (fun h => ?_) <;> (try simp (disch := first | omega | (simp only [List.length_take, List.length_drop, List.length_append, List.length_cons, List.length_nil, List.length_map]; omega)) [h, IntWalk.i64_in, IntWalk.i64_quo, hx, hxl, kn_get5, kn_get7, c1, c2, c3, c4, hA, hB, h2]))
      | (refine condK_beq (fun h => ?_) (fun h => ?_) <;> (try simp (disch := first | omega | (simp only [List.length_take, List.length_drop, List.length_append, List.length_cons, List.length_nil, List.length_map]; omega)) [h, IntWalk.i64_in, IntWalk.i64_quo, hx, hxl, kn_get5, kn_get7, c1, c2, c3, c4, hA, hB, h2]))
      | (refine condK_bne (fun h => ?_) (fun h => ?_) <;> (try simp (disch := first | omega | (simp only [List.length_take, List.length_drop, List.length_append, List.length_cons, List.length_nil, List.length_map]; omega)) [h, IntWalk.i64_in, IntWalk.i64_quo, hx, hxl, kn_get5, kn_get7, c1, c2, c3, c4, hA, hB, h2]))
      | (refine condK_not (fun h => ?_) (fun h => ?_) <;> (try simp (disch := first | omega | (simp only [List.length_take, List.length_drop, List.length_append, List.length_cons, List.length_nil, List.length_map]; omega)) [h, IntWalk.i64_in, IntWalk.i64_quo, hx, hxl, kn_get5, kn_get7, c1, c2, c3, c4, hA, hB, h2]))
      | (refine condK_split (fun h => ?_) (fun h => ?_) <;> (try simp (disch := first | omega | (simp only [List.length_take, List.length_drop, List.length_append, List.length_cons, List.length_nil, List.length_map]; omega)) [h, IntWalk.i64_in, IntWalk.i64_quo, hx, hxl, kn_get5, kn_get7, c1, c2, c3, c4, hA, hB, h2]))
    all_goals (exfalso; omega)
  obtain ⟨o, N, hR, hN, ho⟩ := hH hx h1 h2
  rw [getK_O] at ho
  simp (disch := first | omega | (simp only [List.length_take, List.length_drop, List.length_append, List.length_cons, List.length_nil, List.length_map]; omega)) [IntWalk.i64_in, IntWalk.i64_quo, c5, hg, ha, hb, ht, hn, hS]
  refine region_static rfl (by decide +kernel) ?_
  simp (disch := first | omega | (simp only [List.length_take, List.length_drop, List.length_append, List.length_cons, List.length_nil, List.length_map]; omega)) [IntWalk.i64_in, IntWalk.i64_quo, hx, hxl, kn_get5, kn_get7, c1, c2, c3, c4, hA, hB, h2, hR, hN, ho]
  repeat' first
    | (refine region_static rfl (by decide +kernel) ?_; try simp (disch := first | omega | (simp only [List.length_take, List.length_drop, List.length_append, List.length_cons, List.length_nil, List.length_map]; omega)) [IntWalk.i64_in, IntWalk.i64_quo, hx, hxl, kn_get5, kn_get7, c1, c2, c3, c4, hA, hB, h2, hR, hN, ho])
    | (refine And.intro (by omega) ?_; try simp (disch := first | omega | (simp only [List.length_take, List.length_drop, List.length_append, List.length_cons, List.length_nil, List.length_map]; omega)) [IntWalk.i64_in, IntWalk.i64_quo, hx, hxl, kn_get5, kn_get7, c1, c2, c3, c4, hA, hB, h2, hR, hN, ho])
    | (refine guardK_ndec (fun h => ?_) (fun h => ?_) <;> (try simp (disch := first | omega | (simp only [List.length_take, List.length_drop, List.length_append, List.length_cons, List.length_nil, List.length_map]; omega)) [h, IntWalk.i64_in, IntWalk.i64_quo, hx, hxl, kn_get5, kn_get7, c1, c2, c3, c4, hA, hB, h2, hR, hN, ho]))
    | (refine guardK_dec (fun h => ?_) (fun h => ?_) <;> (try simp (disch := first | omega | (simp only [List.length_take, List.length_drop, List.length_append, List.length_cons, List.length_nil, List.length_map]; omega)) [h, IntWalk.i64_in, IntWalk.i64_quo, hx, hxl, kn_get5, kn_get7, c1, c2, c3, c4, hA, hB, h2, hR, hN, ho]))
    | (refine guardK_nbeq (fun h => ?_) (fun h => ?_) <;> (try simp (disch := first | omega | (simp only [List.length_take, List.length_drop, List.length_append, List.length_cons, List.length_nil, List.length_map]; omega)) [h, IntWalk.i64_in, IntWalk.i64_quo, hx, hxl, kn_get5, kn_get7, c1, c2, c3, c4, hA, hB, h2, hR, hN, ho]))
    | (refine guardK_beq (fun h => ?_) (fun h => ?_) <;> (try simp (disch := first | omega | (simp only [List.length_take, List.length_drop, List.length_append, List.length_cons, List.length_nil, List.length_map]; omega)) [h, IntWalk.i64_in, IntWalk.i64_quo, hx, hxl, kn_get5, kn_get7, c1, c2, c3, c4, hA, hB, h2, hR, hN, ho]))
    | (refine guardK_bne (fun h => ?_) (fun h => ?_) <;> (try simp (disch := first | omega | (simp only [List.length_take, List.length_drop, List.length_append, List.length_cons, List.length_nil, List.length_map]; omega)) [h, IntWalk.i64_in, IntWalk.i64_quo, hx, hxl, kn_get5, kn_get7, c1, c2, c3, c4, hA, hB, h2, hR, hN, ho]))
    | (refine guardK_not (fun h => ?_) (fun h => ?_) <;> (try simp (disch := first | omega | (simp only [List.length_take, List.length_drop, List.length_append, List.length_cons, List.length_nil, List.length_map]; omega)) [h, IntWalk.i64_in, IntWalk.i64_quo, hx, hxl, kn_get5, kn_get7, c1, c2, c3, c4, hA, hB, h2, hR, hN, ho]))
    | (refine guardK_split (fun h => ?_) (fun h => ?_) <;> (try simp (disch := first | omega | (simp only [List.length_take, List.length_drop, List.length_append, List.length_cons, List.length_nil, List.length_map]; omega)) [h, IntWalk.i64_in, IntWalk.i64_quo, hx, hxl, kn_get5, kn_get7, c1, c2, c3, c4, hA, hB, h2, hR, hN, ho]))
    | (refine condK_ndec (fun h => ?_) (fun h => ?_) <;> (try simp (disch := first | omega | (simp only [List.length_take, List.length_drop, List.length_append, List.length_cons, List.length_nil, List.length_map]; omega)) [h, IntWalk.i64_in, IntWalk.i64_quo, hx, hxl, kn_get5, kn_get7, c1, c2, c3, c4, hA, hB, h2, hR, hN, ho]))
    | (refine condK_dec (fun h => ?_) (fun h => ?_) <;> (try simp (disch := first | omega | (simp only [List.length_take, List.length_drop, List.length_append, List.length_cons, List.length_nil, List.length_map]; omega)) [h, IntWalk.i64_in, IntWalk.i64_quo, hx, hxl, kn_get5, kn_get7, c1, c2, c3, c4, hA, hB, h2, hR, hN, ho]))
    | (refine condK_nbeq (fun h => ?_) (fun h => ?_) <;> (try simp (disch := first | omega | (simp only [List.length_take, List.length_drop, List.length_append, List.length_cons, List.length_nil, List.length_map]; omega)) [h, IntWalk.i64_in, IntWalk.i64_quo, hx, hxl, kn_get5, kn_get7, c1, c2, c3, c4, hA, hB, h2, hR, hN, ho]))
    | (refine condK_beq (fun h => ?_) (fun h => ?_) <;> (try simp (disch := first | omega | (simp only [List.length_take, List.length_drop, List.length_append, List.length_cons, List.length_nil, List.length_map]; omega)) [h, IntWalk.i64_in, IntWalk.i64_quo, hx, hxl, kn_get5, kn_get7, c1, c2, c3, c4, hA, hB, h2, hR, hN, ho]))
    | (refine condK_bne (fun h => ?_) (fun h => ?_) <;> (try simp (disch := first | omega | (simp only [List.length_take, List.length_drop, List.length_append, List.length_cons, List.length_nil, List.length_map]; omega)) [h, IntWalk.i64_in, IntWalk.i64_quo, hx, hxl, kn_get5, kn_get7, c1, c2, c3, c4, hA, hB, h2, hR, hN, ho]))
    | (refine condK_not (fun h => ?_) (fun h => ?_) <;> (try simp (disch := first | omega | (simp only [List.length_take, List.length_drop, List.length_append, List.length_cons, List.length_nil, List.length_map]; omega)) [h, IntWalk.i64_in, IntWalk.i64_quo, hx, hxl, kn_get5, kn_get7, c1, c2, c3, c4, hA, hB, h2, hR, hN, ho]))
    | (refine condK_split (fun h => ?_) (fun h => ?_) <;> (try simp (disch := first | omega | (simp only [List.length_take, List.length_drop, List.length_append, List.length_cons, List.length_nil, List.length_map]; omega)) [h, IntWalk.i64_in, IntWalk.i64_quo, hx, hxl, kn_get5, kn_get7, c1, c2, c3, c4, hA, hB, h2, hR, hN, ho]))
  all_goals (exfalso; omega)
theorem mayK_facts {k : Kn} (h : mayK k = true) : (0 ≤ k.node ∧ k.node ≤ 4) ∧ (1 ≤ k.inc ∧ k.inc ≤ 1048576) ∧ ∀ n, 0 ≤ getK k n ∧ getK k n ≤ 1048576 := by
  rw [mayK_eq] at h
  simp only [Bool.and_eq_true, within_iff] at h
  refine ⟨by omega, by omega, fun n => ?_⟩
  unfold getK
  repeat' split
  all_goals omega
theorem lmeets_spec (a b : Kn) (m : Ms) (st : St) : ASpec Try.prog 5 [.agg (knC a), .agg (knC b), .agg (msC m)] st fun v st' => v = .bool true ∧ st' = st := by
  by_cases hg : 40 < m.ws.length
  · refine pure_of (R := fun v => v = _) C10s F5 rfl ?_
    simp (disch := first | omega | (simp only [List.length_take, List.length_drop, List.length_append, List.length_cons, List.length_nil, List.length_map]; omega)) [IntWalk.i64_in, IntWalk.i64_quo, c5, hg]
  have hl : m.ws.length ≤ 1048576 := by omega
  cases ha : mayK a
  · refine pure_of (R := fun v => v = _) C10s F5 rfl ?_
    simp (disch := first | omega | (simp only [List.length_take, List.length_drop, List.length_append, List.length_cons, List.length_nil, List.length_map]; omega)) [IntWalk.i64_in, IntWalk.i64_quo, c5, hg, ha]
  cases hb : mayK b
  · refine pure_of (R := fun v => v = _) C10s F5 rfl ?_
    simp (disch := first | omega | (simp only [List.length_take, List.length_drop, List.length_append, List.length_cons, List.length_nil, List.length_map]; omega)) [IntWalk.i64_in, IntWalk.i64_quo, c5, hg, ha, hb]
  rcases Classical.propComplete (m.to = b.node) with ht | ht
  case inr =>
    refine pure_of (R := fun v => v = _) C10s F5 rfl ?_
    simp (disch := first | omega | (simp only [List.length_take, List.length_drop, List.length_append, List.length_cons, List.length_nil, List.length_map]; omega)) [IntWalk.i64_in, IntWalk.i64_quo, c5, hg, ha, hb, ht]
  rcases Classical.propComplete (a.node = b.node) with hn | hn
  · refine pure_of (R := fun v => v = _) C10s F5 rfl ?_
    simp (disch := first | omega | (simp only [List.length_take, List.length_drop, List.length_append, List.length_cons, List.length_nil, List.length_map]; omega)) [IntWalk.i64_in, IntWalk.i64_quo, c5, hg, ha, hb, ht, hn]
  obtain ⟨b1, b1', b1''⟩ := mayK_facts ha
  obtain ⟨b2, b2', b2''⟩ := mayK_facts hb
  have ht' : m.to = b.node := by rw [ht]; trivial
  have hn' : ¬ a.node = b.node := by rw [hn]; exact id
  have hS : stampR a m = (markM a m, 0) := by
    rw [stampR, if_pos ⟨ha, within_iff.2 (by omega), by omega⟩]
  refine lmeets_x a b m (markM a m) hg hl hl ha hb ht hn hS b1 b2 (fun hx h1 h2 => ?_) st
  have e1 : (markM a m).fr = a.node := rfl
  have e2 : (markM a m).inc = a.inc := rfl
  have e3 : (markM a m).your = getK a b.node := by show getK a m.to = _; rw [ht']
  have e4 : (markM a m).to = b.node := ht'
  have ho : ¬ ((markM a m).inc < getK b (markM a m).fr ∨ (markM a m).your ≠ 0 ∧ (markM a m).your ≠ b.inc) := by
    rw [e1, e2, e3]; omega
  by_cases hs : (markM a m).inc = getK b (markM a m).fr
  · exact ⟨b, 1, hear_same hb hx e4 ho hs, by decide, by rw [e1, e2] at hs; exact hs.symm⟩
  · refine ⟨_, _, hear_new hb hx e4 ho hs, by split <;> decide, ?_⟩
    rw [e1, e2]
    exact getK_set b a.node a.inc b1
end Go.Proofs.Ytbmcgfdopaaiiaa

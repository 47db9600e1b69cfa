/- Records: the table of kinds. -/
import Derived.Test.YtchaakjbedkndaaZD
set_option linter.all false
namespace Go.Proofs.Ytchaakjbedkndaa
open Go.Am

noncomputable def C1 : Orc := B9.add 10 (tab (fun x : List UInt8 => [.sl .any (ofBytes x)]) (fun x => .tup [.agg (rcC (readR x).1), .int .i64 (readR x).2]) fun x => x.length ≤ 1000000)
theorem C1s : OSound Try.prog C1 := B9s.tab fun x h st => rread_spec x h st
@[simp] theorem C1_10 (b : List UInt8) (h : b.length ≤ 1000000) : C1 10 [.sl .any (ofBytes b)] = some (.tup [.agg (rcC (readR b).1), .int .i64 (readR b).2]) := by
  rw [C1, Orc.add_same]
  exact tab_eq (fun x y h => by simp at h; simp [h]) (x := (b)) h
@[simp] theorem C1_o (f : Nat) (args : List AV) (h : f ≠ 10) : C1 f args = B9 f args := by
  rw [C1, Orc.add_other _ _ _ _ _ h]
@[simp] def fnA (f : Nat) : AV := .fn (.func f) [] []
theorem number_spec (m : Int) (st : St) : ASpec Try.prog 50 [.int .i64 m] st fun v st' => v = .agg [fnA 51, fnA 53, .fn (.func 55) [] [.rptr (.int .i64 m)]] ∧ st' = st := by
  refine pure_of (R := fun v => v = _) C1s F50 rfl ?_
  simp (disch := first | omega | (simp only [List.length_take, List.length_drop, List.length_append, List.length_cons, List.length_nil, List.length_map]; omega)) [IntWalk.i64_in, IntWalk.i64_quo, c50]
theorem namedF_spec (f g h : Nat) (st : St) : ASpec Try.prog 56 [fnA f, fnA g, fnA h] st fun v st' => v = .agg [.fn (.func 57) [] [.rptr (fnA f)], .fn (.func 59) [] [.rptr (fnA g)], .fn (.func 61) [] [.rptr (fnA h)]] ∧ st' = st := by
  refine pure_of (R := fun v => v = _) C1s F56 rfl ?_
  simp (disch := first | omega | (simp only [List.length_take, List.length_drop, List.length_append, List.length_cons, List.length_nil, List.length_map]; omega)) [IntWalk.i64_in, IntWalk.i64_quo, c56]
noncomputable def C2 : Orc := C1.add 50 (tab (fun x : Int => [.int .i64 x]) (fun x => .agg [fnA 51, fnA 53, .fn (.func 55) [] [.rptr (.int .i64 x)]]) fun x => True)
theorem C2s : OSound Try.prog C2 := C1s.tab fun x h st => number_spec x st
@[simp] theorem C2_50 (m : Int) : C2 50 [.int .i64 m] = some (.agg [fnA 51, fnA 53, .fn (.func 55) [] [.rptr (.int .i64 m)]]) := by
  rw [C2, Orc.add_same]
  exact tab_eq (fun x y h => by simp at h; simp [h]) (x := (m)) trivial
@[simp] theorem C2_o (f : Nat) (args : List AV) (h : f ≠ 50) : C2 f args = C1 f args := by
  rw [C2, Orc.add_other _ _ _ _ _ h]
noncomputable def C3 : Orc := C2.add 56 (tab (fun x : Nat × Nat × Nat => [.fn (.func x.1) [] [], .fn (.func x.2.1) [] [], .fn (.func x.2.2) [] []]) (fun x => .agg [.fn (.func 57) [] [.rptr (.fn (.func x.1) [] [])], .fn (.func 59) [] [.rptr (.fn (.func x.2.1) [] [])], .fn (.func 61) [] [.rptr (.fn (.func x.2.2) [] [])]]) fun x => True)
theorem C3s : OSound Try.prog C3 := C2s.tab fun x h st => namedF_spec x.1 x.2.1 x.2.2 st
@[simp] theorem C3_56 (f : Nat) (g : Nat) (h' : Nat) : C3 56 [.fn (.func f) [] [], .fn (.func g) [] [], .fn (.func h') [] []] = some (.agg [.fn (.func 57) [] [.rptr (.fn (.func f) [] [])], .fn (.func 59) [] [.rptr (.fn (.func g) [] [])], .fn (.func 61) [] [.rptr (.fn (.func h') [] [])]]) := by
  rw [C3, Orc.add_same]
  exact tab_eq (fun x y h => by simp at h; simp [h]) (x := (f, g, h')) trivial
@[simp] theorem C3_o (f : Nat) (args : List AV) (h : f ≠ 56) : C3 f args = C2 f args := by
  rw [C3, Orc.add_other _ _ _ _ _ h]
def nm3 (f g h : Nat) : List AV := [.fn (.func 57) [] [.rptr (fnA f)], .fn (.func 59) [] [.rptr (fnA g)], .fn (.func 61) [] [.rptr (fnA h)]]
def no3 (m : Int) : List AV := [fnA 51, fnA 53, .fn (.func 55) [] [.rptr (.int .i64 m)]]
def formsC : List AV := [.nilfn, .nilfn, .nilfn] ++ nm3 62 64 66 ++ nm3 67 69 71 ++ nm3 72 74 49 ++ nm3 76 77 78 ++ nm3 79 80 49 ++ no3 1048577 ++ no3 1048576
theorem forms_spec (st : St) : ASpec Try.prog 46 [] st fun v st' => v = .agg formsC ∧ st' = st := by
  refine pure_of (R := fun v => v = _) C3s F46 rfl ?_
  simp (disch := first | omega | (simp only [List.length_take, List.length_drop, List.length_append, List.length_cons, List.length_nil, List.length_map]; omega)) [IntWalk.i64_in, IntWalk.i64_quo, c46]
  repeat' first
    | (refine region_static rfl (by decide +kernel) ?_; try simp (disch := first | omega | (simp only [List.length_take, List.length_drop, List.length_append, List.length_cons, List.length_nil, List.length_map]; omega)) [IntWalk.i64_in, IntWalk.i64_quo])
    | (refine And.intro (by omega) ?_; try simp (disch := first | omega | (simp only [List.length_take, List.length_drop, List.length_append, List.length_cons, List.length_nil, List.length_map]; omega)) [IntWalk.i64_in, IntWalk.i64_quo])
    | (refine guardK_ndec (fun h => ?_) (fun h => ?_) <;> (try simp (disch := first | omega | (simp only [List.length_take, List.length_drop, List.length_append, List.length_cons, List.length_nil, List.length_map]; omega)) [h, IntWalk.i64_in, IntWalk.i64_quo]))
    | (refine guardK_dec (fun h => ?_) (fun h => ?_) <;> (try simp (disch := first | omega | (simp only [List.length_take, List.length_drop, List.length_append, List.length_cons, List.length_nil, List.length_map]; omega)) [h, IntWalk.i64_in, IntWalk.i64_quo]))
    | (refine guardK_nbeq (fun h => ?_) (fun h => ?_) <;> (try simp (disch := first | omega | (simp only [List.length_take, List.length_drop, List.length_append, List.length_cons, List.length_nil, List.length_map]; omega)) [h, IntWalk.i64_in, IntWalk.i64_quo]))
    | (refine guardK_beq (fun h => ?_) (fun h => ?_) <;> (try simp (disch := first | omega | (simp only [List.length_take, List.length_drop, List.length_append, List.length_cons, List.length_nil, List.length_map]; omega)) [h, IntWalk.i64_in, IntWalk.i64_quo]))
    | (refine guardK_bne (fun h => ?_) (fun h => ?_) <;> (try simp (disch := first | omega | (simp only [List.length_take, List.length_drop, List.length_append, List.length_cons, List.length_nil, List.length_map]; omega)) [h, IntWalk.i64_in, IntWalk.i64_quo]))
    | (refine guardK_not (fun h => ?_) (fun h => ?_) <;> (try simp (disch := first | omega | (simp only [List.length_take, List.length_drop, List.length_append, List.length_cons, List.length_nil, List.length_map]; omega)) [h, IntWalk.i64_in, IntWalk.i64_quo]))
    | (refine guardK_split (fun h => ?_) (fun h => ?_) <;> (try simp (disch := first | omega | (simp only [List.length_take, List.length_drop, List.length_append, List.length_cons, List.length_nil, List.length_map]; omega)) [h, IntWalk.i64_in, IntWalk.i64_quo]))
    | (refine condK_ndec (fun h => ?_) (fun h => ?_) <;> (try simp (disch := first | omega | (simp only [List.length_take, List.length_drop, List.length_append, List.length_cons, List.length_nil, List.length_map]; omega)) [h, IntWalk.i64_in, IntWalk.i64_quo]))
    | (refine condK_dec (fun h => ?_) (fun h => ?_) <;> (try simp (disch := first | omega | (simp only [List.length_take, List.length_drop, List.length_append, List.length_cons, List.length_nil, List.length_map]; omega)) [h, IntWalk.i64_in, IntWalk.i64_quo]))
    | (refine condK_nbeq (fun h => ?_) (fun h => ?_) <;> (try simp (disch := first | omega | (simp only [List.length_take, List.length_drop, List.length_append, List.length_cons, List.length_nil, List.length_map]; omega)) [h, IntWalk.i64_in, IntWalk.i64_quo]))
    | (refine condK_beq (fun h => ?_) (fun h => ?_) <;> (try simp (disch := first | omega | (simp only [List.length_take, List.length_drop, List.length_append, List.length_cons, List.length_nil, List.length_map]; omega)) [h, IntWalk.i64_in, IntWalk.i64_quo]))
    | (refine condK_bne (fun h => ?_) (fun h => ?_) <;> (try simp (disch := first | omega | (simp only [List.length_take, List.length_drop, List.length_append, List.length_cons, List.length_nil, List.length_map]; omega)) [h, IntWalk.i64_in, IntWalk.i64_quo]))
    | (refine condK_not (fun h => ?_) (fun h => ?_) <;> (try simp (disch := first | omega | (simp only [List.length_take, List.length_drop, List.length_append, List.length_cons, List.length_nil, List.length_map]; omega)) [h, IntWalk.i64_in, IntWalk.i64_quo]))
    | (refine condK_split (fun h => ?_) (fun h => ?_) <;> (try simp (disch := first | omega | (simp only [List.length_take, List.length_drop, List.length_append, List.length_cons, List.length_nil, List.length_map]; omega)) [h, IntWalk.i64_in, IntWalk.i64_quo]))
  all_goals (simp [formsC, nm3, no3])
noncomputable def C4 : Orc := C3.add 46 (tab (fun x : Unit => []) (fun x => .agg formsC) fun x => True)
theorem C4s : OSound Try.prog C4 := C3s.tab fun x h st => forms_spec st
@[simp] theorem C4_46  : C4 46 [] = some (.agg formsC) := by
  rw [C4, Orc.add_same]
  exact tab_eq (fun x y h => by rfl) (x := ()) trivial
@[simp] theorem C4_o (f : Nat) (args : List AV) (h : f ≠ 46) : C4 f args = C3 f args := by
  rw [C4, Orc.add_other _ _ _ _ _ h]
theorem of_some (k : Int) (hk : 1 ≤ k ∧ k ≤ 7) (st : St) : ASpec Try.prog 26 [.int .i8 k] st fun v st' => v = .ptr st.heap.length (k.toNat * 3) ∧ st' = ⟨st.heap ++ [.cells false formsC], st.toks⟩ := by
  refine raw_of C4s F26 rfl ?_
  have h1 : ¬ k ≤ 0 := by omega
  have h2 : ¬ 8 ≤ k := by omega
  have hw : IntKind.i64.wrap k = k := IntWalk.i64_in _ (by omega)
  have h3 : 0 ≤ k := by omega
  have h4 : k < 8 := by omega
  have hl : formsC.length = 24 := rfl
  simp (disch := first | omega | (simp only [List.length_take, List.length_drop, List.length_append, List.length_cons, List.length_nil, List.length_map]; omega)) [IntWalk.i64_in, IntWalk.i64_quo, c26, h1, h2, hw, h3, h4, hl]
  repeat' first
    | (refine region_static rfl (by decide +kernel) ?_; try simp (disch := first | omega | (simp only [List.length_take, List.length_drop, List.length_append, List.length_cons, List.length_nil, List.length_map]; omega)) [IntWalk.i64_in, IntWalk.i64_quo, h1, h2, hw, h3, h4, hl])
    | (refine And.intro (by omega) ?_; try simp (disch := first | omega | (simp only [List.length_take, List.length_drop, List.length_append, List.length_cons, List.length_nil, List.length_map]; omega)) [IntWalk.i64_in, IntWalk.i64_quo, h1, h2, hw, h3, h4, hl])
    | (refine guardK_ndec (fun h => ?_) (fun h => ?_) <;> (try simp (disch := first | omega | (simp only [List.length_take, List.length_drop, List.length_append, List.length_cons, List.length_nil, List.length_map]; omega)) [h, IntWalk.i64_in, IntWalk.i64_quo, h1, h2, hw, h3, h4, hl]))
    | (refine guardK_dec (fun h => ?_) (fun h => ?_) <;> (try simp (disch := first | omega | (simp only [List.length_take, List.length_drop, List.length_append, List.length_cons, List.length_nil, List.length_map]; omega)) [h, IntWalk.i64_in, IntWalk.i64_quo, h1, h2, hw, h3, h4, hl]))
    | (refine guardK_nbeq (fun h => ?_) (fun h => ?_) <;> (try simp (disch := first | omega | (simp only [List.length_take, List.length_drop, List.length_append, List.length_cons, List.length_nil, List.length_map]; omega)) [h, IntWalk.i64_in, IntWalk.i64_quo, h1, h2, hw, h3, h4, hl]))
    | (refine guardK_beq (fun h => ?_) (fun h => ?_) <;> (try simp (disch := first | omega | (simp only [List.length_take, List.length_drop, List.length_append, List.length_cons, List.length_nil, List.length_map]; omega)) [h, IntWalk.i64_in, IntWalk.i64_quo, h1, h2, hw, h3, h4, hl]))
    | (refine guardK_bne (fun h => ?_) (fun h => ?_) <;> (try simp (disch := first | omega | (simp only [List.length_take, List.length_drop, List.length_append, List.length_cons, List.length_nil, List.length_map]; omega)) [h, IntWalk.i64_in, IntWalk.i64_quo, h1, h2, hw, h3, h4, hl]))
    | (refine guardK_not (fun h => ?_) (fun h => ?_) <;> (try simp (disch := first | omega | (simp only [List.length_take, List.length_drop, List.length_append, List.length_cons, List.length_nil, List.length_map]; omega)) [h, IntWalk.i64_in, IntWalk.i64_quo, h1, h2, hw, h3, h4, hl]))
    | (refine guardK_split (fun h => ?_) (fun h => ?_) <;> (try simp (disch := first | omega | (simp only [List.length_take, List.length_drop, List.length_append, List.length_cons, List.length_nil, List.length_map]; omega)) [h, IntWalk.i64_in, IntWalk.i64_quo, h1, h2, hw, h3, h4, hl]))
    | (refine condK_ndec (fun h => ?_) (fun h => ?_) <;> (try simp (disch := first | omega | (simp only [List.length_take, List.length_drop, List.length_append, List.length_cons, List.length_nil, List.length_map]; omega)) [h, IntWalk.i64_in, IntWalk.i64_quo, h1, h2, hw, h3, h4, hl]))
    | (refine condK_dec (fun h => ?_) (fun h => ?_) <;> (try simp (disch := first | omega | (simp only [List.length_take, List.length_drop, List.length_append, List.length_cons, List.length_nil, List.length_map]; omega)) [h, IntWalk.i64_in, IntWalk.i64_quo, h1, h2, hw, h3, h4, hl]))
    | (refine condK_nbeq (fun h => ?_) (fun h => ?_) <;> (try simp (disch := first | omega | (simp only [List.length_take, List.length_drop, List.length_append, List.length_cons, List.length_nil, List.length_map]; omega)) [h, IntWalk.i64_in, IntWalk.i64_quo, h1, h2, hw, h3, h4, hl]))
    | (refine condK_beq (fun h => ?_) (fun h => ?_) <;> (try simp (disch := first | omega | (simp only [List.length_take, List.length_drop, List.length_append, List.length_cons, List.length_nil, List.length_map]; omega)) [h, IntWalk.i64_in, IntWalk.i64_quo, h1, h2, hw, h3, h4, hl]))
    | (refine condK_bne (fun h => ?_) (fun h => ?_) <;> (try simp (disch := first | omega | (simp only [List.length_take, List.length_drop, List.length_append, List.length_cons, List.length_nil, List.length_map]; omega)) [h, IntWalk.i64_in, IntWalk.i64_quo, h1, h2, hw, h3, h4, hl]))
    | (refine condK_not (fun h => ?_) (fun h => ?_) <;> (try simp (disch := first | omega | (simp only [List.length_take, List.length_drop, List.length_append, List.length_cons, List.length_nil, List.length_map]; omega)) [h, IntWalk.i64_in, IntWalk.i64_quo, h1, h2, hw, h3, h4, hl]))
    | (refine condK_split (fun h => ?_) (fun h => ?_) <;> (try simp (disch := first | omega | (simp only [List.length_take, List.length_drop, List.length_append, List.length_cons, List.length_nil, List.length_map]; omega)) [h, IntWalk.i64_in, IntWalk.i64_quo, h1, h2, hw, h3, h4, hl]))
  exact .inl ⟨by simp, Nat.le_refl _, rfl, rfl⟩
theorem of_none (k : Int) (hk : ¬ (1 ≤ k ∧ k ≤ 7)) (hb : -128 ≤ k ∧ k ≤ 127) (st : St) : ASpec Try.prog 26 [.int .i8 k] st fun v st' => v = .nilp ∧ st' = st := by
  refine pure_of (R := fun v => v = _) C4s F26 rfl ?_
  have hw : IntKind.i64.wrap k = k := IntWalk.i64_in _ (by omega)
  have hl : formsC.length = 24 := rfl
  by_cases h1 : k ≤ 0
  · simp (disch := first | omega | (simp only [List.length_take, List.length_drop, List.length_append, List.length_cons, List.length_nil, List.length_map]; omega)) [IntWalk.i64_in, IntWalk.i64_quo, c26, h1, hw, hl]
    repeat' first
      | (refine region_static rfl (by decide +kernel) ?_; try simp (disch := first | omega | (simp only [List.length_take, List.length_drop, List.length_append, List.length_cons, List.length_nil, List.length_map]; omega)) [IntWalk.i64_in, IntWalk.i64_quo, h1, hw, hl])
      | (refine And.intro (by omega) ?_; try simp (disch := first | omega | (simp only [List.length_take, List.length_drop, List.length_append, List.length_cons, List.length_nil, List.length_map]; omega)) [IntWalk.i64_in, IntWalk.i64_quo, h1, hw, hl])
      | (refine guardK_ndec (fun h => ?_) (fun h => ?_) <;> (try simp (disch := first | omega | (simp only [List.length_take, List.length_drop, List.length_append, List.length_cons, List.length_nil, List.length_map]; omega)) [h, IntWalk.i64_in, IntWalk.i64_quo, h1, hw, hl]))
      | (refine guardK_dec (fun h => ?_) (fun h => ?_) <;> (try simp (disch := first | omega | (simp only [List.length_take, List.length_drop, List.length_append, List.length_cons, List.length_nil, List.length_map]; omega)) [h, IntWalk.i64_in, IntWalk.i64_quo, h1, hw, hl]))
      | (refine guardK_nbeq (fun h => ?_) (fun h => ?_) <;> (try simp (disch := first | omega | (simp only [List.length_take, List.length_drop, List.length_append, List.length_cons, List.length_nil, List.length_map]; omega)) [h, IntWalk.i64_in, IntWalk.i64_quo, h1, hw, hl]))
      | (refine guardK_beq (fun h => ?_) (fun h => ?_) <;> (try simp (disch := first | omega | (simp only [List.length_take, List.length_drop, List.length_append, List.length_cons, List.length_nil, List.length_map]; omega)) [h, IntWalk.i64_in, IntWalk.i64_quo, h1, hw, hl]))
      | (refine guardK_bne (fun h => ?_) (fun h => ?_) <;> (try simp (disch := first | omega | (simp only [List.length_take, List.length_drop, List.length_append, List.length_cons, List.length_nil, List.length_map]; omega)) [h, IntWalk.i64_in, IntWalk.i64_quo, h1, hw, hl]))
      | (refine guardK_not (fun h => ?_) (fun h => ?_) <;> (try simp (disch := first | omega | (simp only [List.length_take, List.length_drop, List.length_append, List.length_cons, List.length_nil, List.length_map]; omega)) [h, IntWalk.i64_in, IntWalk.i64_quo, h1, hw, hl]))
      | (refine guardK_split (fun h => ?_) (fun h => ?_) <;> (try simp (disch := first | omega | (simp only [List.length_take, List.length_drop, List.length_append, List.length_cons, List.length_nil, List.length_map]; omega)) [h, IntWalk.i64_in, IntWalk.i64_quo, h1, hw, hl]))
      | (refine condK_ndec (fun h => ?_) (fun h => ?_) <;> (try simp (disch := first | omega | (simp only [List.length_take, List.length_drop, List.length_append, List.length_cons, List.length_nil, List.length_map]; omega)) [h, IntWalk.i64_in, IntWalk.i64_quo, h1, hw, hl]))
      | (refine condK_dec (fun h => ?_) (fun h => ?_) <;> (try simp (disch := first | omega | (simp only [List.length_take, List.length_drop, List.length_append, List.length_cons, List.length_nil, List.length_map]; omega)) [h, IntWalk.i64_in, IntWalk.i64_quo, h1, hw, hl]))
      | (refine condK_nbeq (fun h => ?_) (fun h => ?_) <;> (try simp (disch := first | omega | (simp only [List.length_take, List.length_drop, List.length_append, List.length_cons, List.length_nil, List.length_map]; omega)) [h, IntWalk.i64_in, IntWalk.i64_quo, h1, hw, hl]))
      | (refine condK_beq (fun h => ?_) (fun h => ?_) <;> (try simp (disch := first | omega | (simp only [List.length_take, List.length_drop, List.length_append, List.length_cons, List.length_nil, List.length_map]; omega)) [h, IntWalk.i64_in, IntWalk.i64_quo, h1, hw, hl]))
      | (refine condK_bne (fun h => ?_) (fun h => ?_) <;> (try simp (disch := first | omega | (simp only [List.length_take, List.length_drop, List.length_append, List.length_cons, List.length_nil, List.length_map]; omega)) [h, IntWalk.i64_in, IntWalk.i64_quo, h1, hw, hl]))
      | (refine condK_not (fun h => ?_) (fun h => ?_) <;> (try simp (disch := first | omega | (simp only [List.length_take, List.length_drop, List.length_append, List.length_cons, List.length_nil, List.length_map]; omega)) [h, IntWalk.i64_in, IntWalk.i64_quo, h1, hw, hl]))
      | (refine condK_split (fun h => ?_) (fun h => ?_) <;> (try simp (disch := first | omega | (simp only [List.length_take, List.length_drop, List.length_append, List.length_cons, List.length_nil, List.length_map]; omega)) [h, IntWalk.i64_in, IntWalk.i64_quo, h1, hw, hl]))
  · have h2 : 8 ≤ k := by omega
    simp (disch := first | omega | (simp only [List.length_take, List.length_drop, List.length_append, List.length_cons, List.length_nil, List.length_map]; omega)) [IntWalk.i64_in, IntWalk.i64_quo, c26, h1, h2, hw, hl]
    repeat' first
      | (refine region_static rfl (by decide +kernel) ?_; try simp (disch := first | omega | (simp only [List.length_take, List.length_drop, List.length_append, List.length_cons, List.length_nil, List.length_map]; omega)) [IntWalk.i64_in, IntWalk.i64_quo, h1, h2, hw, hl])
      | (refine And.intro (by omega) ?_; try simp (disch := first | omega | (simp only [List.length_take, List.length_drop, List.length_append, List.length_cons, List.length_nil, List.length_map]; omega)) [IntWalk.i64_in, IntWalk.i64_quo, h1, h2, hw, hl])
      | (refine guardK_ndec (fun h => ?_) (fun h => ?_) <;> (try simp (disch := first | omega | (simp only [List.length_take, List.length_drop, List.length_append, List.length_cons, List.length_nil, List.length_map]; omega)) [h, IntWalk.i64_in, IntWalk.i64_quo, h1, h2, hw, hl]))
      | (refine guardK_dec (fun h => ?_) (fun h => ?_) <;> (try simp (disch := first | omega | (simp only [List.length_take, List.length_drop, List.length_append, List.length_cons, List.length_nil, List.length_map]; omega)) [h, IntWalk.i64_in, IntWalk.i64_quo, h1, h2, hw, hl]))
      | (refine guardK_nbeq (fun h => ?_) (fun h => ?_) <;> (try simp (disch := first | omega | (simp only [List.length_take, List.length_drop, List.length_append, List.length_cons, List.length_nil, List.length_map]; omega)) [h, IntWalk.i64_in, IntWalk.i64_quo, h1, h2, hw, hl]))
      | (refine guardK_beq (fun h => ?_) (fun h => ?_) <;> (try simp (disch := first | omega | (simp only [List.length_take, List.length_drop, List.length_append, List.length_cons, List.length_nil, List.length_map]; omega)) [h, IntWalk.i64_in, IntWalk.i64_quo, h1, h2, hw, hl]))
      | (refine guardK_bne (fun h => ?_) (fun h => ?_) <;> (try simp (disch := first | omega | (simp only [List.length_take, List.length_drop, List.length_append, List.length_cons, List.length_nil, List.length_map]; omega)) [h, IntWalk.i64_in, IntWalk.i64_quo, h1, h2, hw, hl]))
      | (refine guardK_not (fun h => ?_) (fun h => ?_) <;> (try simp (disch := first | omega | (simp only [List.length_take, List.length_drop, List.length_append, List.length_cons, List.length_nil, List.length_map]; omega)) [h, IntWalk.i64_in, IntWalk.i64_quo, h1, h2, hw, hl]))
      | (refine guardK_split (fun h => ?_) (fun h => ?_) <;> (try simp (disch := first | omega | (simp only [List.length_take, List.length_drop, List.length_append, List.length_cons, List.length_nil, List.length_map]; omega)) [h, IntWalk.i64_in, IntWalk.i64_quo, h1, h2, hw, hl]))
      | (refine condK_ndec (fun h => ?_) (fun h => ?_) <;> (try simp (disch := first | omega | (simp only [List.length_take, List.length_drop, List.length_append, List.length_cons, List.length_nil, List.length_map]; omega)) [h, IntWalk.i64_in, IntWalk.i64_quo, h1, h2, hw, hl]))
      | (refine condK_dec (fun h => ?_) (fun h => ?_) <;> (try simp (disch := first | omega | (simp only [List.length_take, List.length_drop, List.length_append, List.length_cons, List.length_nil, List.length_map]; omega)) [h, IntWalk.i64_in, IntWalk.i64_quo, h1, h2, hw, hl]))
      | (refine condK_nbeq (fun h => ?_) (fun h => ?_) <;> (try simp (disch := first | omega | (simp only [List.length_take, List.length_drop, List.length_append, List.length_cons, List.length_nil, List.length_map]; omega)) [h, IntWalk.i64_in, IntWalk.i64_quo, h1, h2, hw, hl]))
      | (refine condK_beq (fun h => ?_) (fun h => ?_) <;> (try simp (disch := first | omega | (simp only [List.length_take, List.length_drop, List.length_append, List.length_cons, List.length_nil, List.length_map]; omega)) [h, IntWalk.i64_in, IntWalk.i64_quo, h1, h2, hw, hl]))
      | (refine condK_bne (fun h => ?_) (fun h => ?_) <;> (try simp (disch := first | omega | (simp only [List.length_take, List.length_drop, List.length_append, List.length_cons, List.length_nil, List.length_map]; omega)) [h, IntWalk.i64_in, IntWalk.i64_quo, h1, h2, hw, hl]))
      | (refine condK_not (fun h => ?_) (fun h => ?_) <;> (try simp (disch := first | omega | (simp only [List.length_take, List.length_drop, List.length_append, List.length_cons, List.length_nil, List.length_map]; omega)) [h, IntWalk.i64_in, IntWalk.i64_quo, h1, h2, hw, hl]))
      | (refine condK_split (fun h => ?_) (fun h => ?_) <;> (try simp (disch := first | omega | (simp only [List.length_take, List.length_drop, List.length_append, List.length_cons, List.length_nil, List.length_map]; omega)) [h, IntWalk.i64_in, IntWalk.i64_quo, h1, h2, hw, hl]))
end Go.Proofs.Ytchaakjbedkndaa

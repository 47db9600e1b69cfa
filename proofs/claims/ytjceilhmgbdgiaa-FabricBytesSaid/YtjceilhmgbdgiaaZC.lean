/- Messages: the kinds' fields. -/
import Derived.Test.YtjceilhmgbdgiaaZB
set_option linter.all false
namespace Go.Proofs.Ytjceilhmgbdgiaa
open Go.Am

@[simp] def fnA (f : Nat) : AV := .fn (.func f) [] []
@[simp] def numC (f : Nat) (m : Int) : List AV := [.fn (.func 190) [] [.rptr (fnA f), .rptr (.int .i64 m)], .fn (.func 191) [] [.rptr (.int .i64 m), .rptr (fnA f)]]
theorem bytesF_spec (f : Nat) (m : Int) (st : St) : ASpec Try.prog 189 [fnA f, .int .i64 m] st fun v st' => v = .agg (numC f m) ∧ st' = st := by
  refine pure_of (R := fun v => v = _) B3s F189 rfl ?_
  simp (disch := first | omega | (simp only [LL]; omega)) [WW, c189]
noncomputable def C1 : Orc := B3.add 189 (tab (fun x : Nat × Int => [.fn (.func x.1) [] [], .int .i64 x.2]) (fun x => .agg (numC x.1 x.2)) fun x => True)
theorem C1s : OSound Try.prog C1 := B3s.tab fun x h st => bytesF_spec x.1 x.2 st
@[simp] theorem C1_189 (f : Nat) (m : Int) : C1 189 [.fn (.func f) [] [], .int .i64 m] = some (.agg (numC f m)) := by
  rw [C1, Orc.add_same]
  exact tab_eq (fun x y h => by simp at h; simp [h]) (x := (f, m)) trivial
@[simp] theorem C1_o (f : Nat) (args : List AV) (h : f ≠ 189) : C1 f args = B3 f args := by
  rw [C1, Orc.add_other _ _ _ _ _ h]
def allC : List AV := [fnA 192, fnA 193] ++ numC 194 3 ++ numC 195 1 ++ [fnA 196, fnA 197, fnA 198, fnA 199, fnA 201, fnA 202, fnA 203, fnA 204] ++ numC 205 1 ++ numC 206 1 ++ [fnA 207, fnA 208]
theorem all_spec (st : St) : ASpec Try.prog 170 [] st fun v st' => v = .agg allC ∧ st' = st := by
  refine pure_of (R := fun v => v = _) C1s F170 rfl ?_
  simp (disch := first | omega | (simp only [LL]; omega)) [WW, c170]
  simp [allC]
noncomputable def C2 : Orc := C1.add 170 (tab (fun x : Unit => []) (fun x => .agg allC) fun x => True)
theorem C2s : OSound Try.prog C2 := C1s.tab fun x h st => all_spec st
@[simp] theorem C2_170  : C2 170 [] = some (.agg allC) := by
  rw [C2, Orc.add_same]
  exact tab_eq (fun x y h => by rfl) (x := ()) trivial
@[simp] theorem C2_o (f : Nat) (args : List AV) (h : f ≠ 170) : C2 f args = C1 f args := by
  rw [C2, Orc.add_other _ _ _ _ _ h]
def ints (l : List Int) : List AV := l.map fun n => .int .i64 n
@[simp] theorem ints_length (l : List Int) : (ints l).length = l.length := by simp [ints]
@[simp] theorem ints_norm (l : List Int) : normL (ints l) = ints l := normL_map _ _ fun x => by simp
@[simp] theorem ints_ok (l : List Int) (n m : Nat) : okL n m (ints l) = true := okL_map _ _ fun x _ => by simp
@[simp] theorem ints_allSz (l : List Int) : allSz 1 (ints l) = true := allSz_map _ _ _ fun _ => rfl
@[simp] theorem ints_get (l : List Int) (i : Nat) : (ints l)[i]? = l[i]?.map fun n => .int .i64 n := by simp [ints]
@[simp] theorem ints_inj {a b : List Int} : ints a = ints b ↔ a = b := ⟨fun h => (List.map_inj_right (fun a b e => by injection e)).1 h, fun h => h ▸ rfl⟩
theorem one_spec (l : List Int) (st : St) : ASpec Try.prog 172 [.sl .any (ints l)] st fun v st' => v = .fn (.func 173) [] [.rptr (.sl .any (ints l))] ∧ st' = st := by
  refine pure_of (R := fun v => v = _) C2s F172 rfl ?_
  simp (disch := first | omega | (simp only [LL]; omega)) [WW, c172]
noncomputable def C3 : Orc := C2.add 172 (tab (fun x : List Int => [.sl .any (ints x)]) (fun x => .fn (.func 173) [] [.rptr (.sl .any (ints x))]) fun x => True)
theorem C3s : OSound Try.prog C3 := C2s.tab fun x h st => one_spec x st
@[simp] theorem C3_172 (l : List Int) : C3 172 [.sl .any (ints l)] = some (.fn (.func 173) [] [.rptr (.sl .any (ints l))]) := by
  rw [C3, Orc.add_same]
  exact tab_eq (fun x y h => by simp at h; simp [h]) (x := (l)) trivial
@[simp] theorem C3_o (f : Nat) (args : List AV) (h : f ≠ 172) : C3 f args = C2 f args := by
  rw [C3, Orc.add_other _ _ _ _ _ h]
@[simp] theorem C3_172_3 (a b c : Int) : C3 172 [.sl .any [.int .i64 a, .int .i64 b, .int .i64 c]] = some (.fn (.func 173) [] [.rptr (.sl .any [.int .i64 a, .int .i64 b, .int .i64 c])]) := C3_172 [a, b, c]
@[simp] theorem C3_172_5 (a b c d e : Int) : C3 172 [.sl .any [.int .i64 a, .int .i64 b, .int .i64 c, .int .i64 d, .int .i64 e]] = some (.fn (.func 173) [] [.rptr (.sl .any [.int .i64 a, .int .i64 b, .int .i64 c, .int .i64 d, .int .i64 e])]) := C3_172 [a, b, c, d, e]
def inL (l : List Int) (e : Int) : Bool := decide (e ∈ l)
theorem index3_spec (a b c e : Int) (st : St) : ASpec Try.prog 209 [.sl .any [.int .i64 a, .int .i64 b, .int .i64 c], .int .i64 e] st fun v st' => v = .int .i64 (if e = a then 0 else if e = b then 1 else if e = c then 2 else -1) ∧ st' = st := by
  refine pure_of (R := fun v => v = _) C3s F209 rfl ?_
  simp (disch := first | omega | (simp only [LL]; omega)) [WW, c209]
  refine awC_loopU 4 ?_
  simp (disch := first | omega | (simp only [LL]; omega)) [WW]
  repeat' first
    | (refine region_static rfl (by decide +kernel) ?_; try simp (disch := first | omega | (simp only [LL]; omega)) [WW])
    | (refine And.intro (by omega) ?_; try simp (disch := first | omega | (simp only [LL]; omega)) [WW])
    | (refine guardK_ndec (fun h => ?_) (fun h => ?_) <;> (try simp (disch := first | omega | (simp only [LL]; omega)) [h, WW]))
    | (refine guardK_dec (fun h => ?_) (fun h => ?_) <;> (try simp (disch := first | omega | (simp only [LL]; omega)) [h, WW]))
    | (refine guardK_nbeq (fun h => ?_) (fun h => ?_) <;> (try simp (disch := first | omega | (simp only [LL]; omega)) [h, WW]))
    | (refine guardK_beq (fun h => ?_) (fun h => ?_) <;> (try simp (disch := first | omega | (simp only [LL]; omega)) [h, WW]))
    | (refine guardK_bne (fun h => ?_) (fun h => ?_) <;> (try simp (disch := first | omega | (simp only [LL]; omega)) [h, WW]))
    | (refine guardK_not (fun h => ?_) (fun h => ?_) <;> (try simp (disch := first | omega | (simp only [LL]; omega)) [h, WW]))
    | (refine guardK_split (fun h => ?_) (fun h => ?_) <;> (try simp (disch := first | omega | (simp only [LL]; omega)) [h, WW]))
    | (refine condK_ndec (fun h => ?_) (fun h => ?_) <;> (try simp (disch := first | omega | (simp only [LL]; omega)) [h, WW]))
    | (refine condK_dec (fun h => ?_) (fun h => ?_) <;> (try simp (disch := first | omega | (simp only [LL]; omega)) [h, WW]))
    | (refine condK_nbeq (fun h => ?_) (fun h => ?_) <;> (try simp (disch := first | omega | (simp only [LL]; omega)) [h, WW]))
    | (refine condK_beq (fun h => ?_) (fun h => ?_) <;> (try simp (disch := first | omega | (simp only [LL]; omega)) [h, WW]))
    | (refine condK_bne (fun h => ?_) (fun h => ?_) <;> (try simp (disch := first | omega | (simp only [LL]; omega)) [h, WW]))
    | (refine condK_not (fun h => ?_) (fun h => ?_) <;> (try simp (disch := first | omega | (simp only [LL]; omega)) [h, WW]))
    | (refine condK_split (fun h => ?_) (fun h => ?_) <;> (try simp (disch := first | omega | (simp only [LL]; omega)) [h, WW]))
  all_goals simp [*]
theorem index5_spec (a b c d f e : Int) (st : St) : ASpec Try.prog 209 [.sl .any [.int .i64 a, .int .i64 b, .int .i64 c, .int .i64 d, .int .i64 f], .int .i64 e] st fun v st' => v = .int .i64 (if e = a then 0 else if e = b then 1 else if e = c then 2 else if e = d then 3 else if e = f then 4 else -1) ∧ st' = st := by
  refine pure_of (R := fun v => v = _) C3s F209 rfl ?_
  simp (disch := first | omega | (simp only [LL]; omega)) [WW, c209]
  refine awC_loopU 6 ?_
  simp (disch := first | omega | (simp only [LL]; omega)) [WW]
  repeat' first
    | (refine region_static rfl (by decide +kernel) ?_; try simp (disch := first | omega | (simp only [LL]; omega)) [WW])
    | (refine And.intro (by omega) ?_; try simp (disch := first | omega | (simp only [LL]; omega)) [WW])
    | (refine guardK_ndec (fun h => ?_) (fun h => ?_) <;> (try simp (disch := first | omega | (simp only [LL]; omega)) [h, WW]))
    | (refine guardK_dec (fun h => ?_) (fun h => ?_) <;> (try simp (disch := first | omega | (simp only [LL]; omega)) [h, WW]))
    | (refine guardK_nbeq (fun h => ?_) (fun h => ?_) <;> (try simp (disch := first | omega | (simp only [LL]; omega)) [h, WW]))
    | (refine guardK_beq (fun h => ?_) (fun h => ?_) <;> (try simp (disch := first | omega | (simp only [LL]; omega)) [h, WW]))
    | (refine guardK_bne (fun h => ?_) (fun h => ?_) <;> (try simp (disch := first | omega | (simp only [LL]; omega)) [h, WW]))
    | (refine guardK_not (fun h => ?_) (fun h => ?_) <;> (try simp (disch := first | omega | (simp only [LL]; omega)) [h, WW]))
    | (refine guardK_split (fun h => ?_) (fun h => ?_) <;> (try simp (disch := first | omega | (simp only [LL]; omega)) [h, WW]))
    | (refine condK_ndec (fun h => ?_) (fun h => ?_) <;> (try simp (disch := first | omega | (simp only [LL]; omega)) [h, WW]))
    | (refine condK_dec (fun h => ?_) (fun h => ?_) <;> (try simp (disch := first | omega | (simp only [LL]; omega)) [h, WW]))
    | (refine condK_nbeq (fun h => ?_) (fun h => ?_) <;> (try simp (disch := first | omega | (simp only [LL]; omega)) [h, WW]))
    | (refine condK_beq (fun h => ?_) (fun h => ?_) <;> (try simp (disch := first | omega | (simp only [LL]; omega)) [h, WW]))
    | (refine condK_bne (fun h => ?_) (fun h => ?_) <;> (try simp (disch := first | omega | (simp only [LL]; omega)) [h, WW]))
    | (refine condK_not (fun h => ?_) (fun h => ?_) <;> (try simp (disch := first | omega | (simp only [LL]; omega)) [h, WW]))
    | (refine condK_split (fun h => ?_) (fun h => ?_) <;> (try simp (disch := first | omega | (simp only [LL]; omega)) [h, WW]))
  all_goals simp [*]
/-- Fields. -/
inductive Fd where
  | name | n | block | op | value | e | yes | give | take | writes
  deriving DecidableEq
@[simp] def putV : Fd → AV
  | .name => fnA 192
  | .n => .fn (.func 190) [] [.rptr (fnA 194), .rptr (.int .i64 3)]
  | .block => .fn (.func 190) [] [.rptr (fnA 195), .rptr (.int .i64 1)]
  | .op => fnA 196
  | .value => fnA 198
  | .e => fnA 201
  | .yes => fnA 203
  | .give => .fn (.func 190) [] [.rptr (fnA 205), .rptr (.int .i64 1)]
  | .take => .fn (.func 190) [] [.rptr (fnA 206), .rptr (.int .i64 1)]
  | .writes => fnA 207
@[simp] def getV : Fd → AV
  | .name => fnA 193
  | .n => .fn (.func 191) [] [.rptr (.int .i64 3), .rptr (fnA 194)]
  | .block => .fn (.func 191) [] [.rptr (.int .i64 1), .rptr (fnA 195)]
  | .op => fnA 197
  | .value => fnA 199
  | .e => fnA 202
  | .yes => fnA 204
  | .give => .fn (.func 191) [] [.rptr (.int .i64 1), .rptr (fnA 205)]
  | .take => .fn (.func 191) [] [.rptr (.int .i64 1), .rptr (fnA 206)]
  | .writes => fnA 208
def fdA (f : Fd) : AV := .agg [putV f, getV f]
def fds (l : List Fd) : List AV := l.map fdA
def fieldsOf (k : Int) : List Fd :=
  if k = 2 then [.name, .n, .op, .block, .value] else if k = 3 then [.name, .n, .value, .e] else if k = 4 then [.name, .give, .take, .writes]
  else if k = 5 ∨ k = 6 then [.name, .yes] else if k = 7 ∨ k = 8 ∨ k = 9 then [.name] else if k = 10 then [.name, .e] else []
/-- What a kind looks at: its function; l: the block of the variable that it reads. -/
def suchV (k : Int) (l : Nat) : AV := if k = 2 then fnA 175 else if k = 3 then .fn (.func 176) [] [.ptr l 0] else if k = 4 then fnA 177
  else if k = 10 then .fn (.func 173) [] [.rptr (.sl .any (ints [0, 50, 121]))] else fnA 171
theorem downK_eq (k : Int) : downK k = decide (k = 1 ∨ k = 2 ∨ k = 4 ∨ k = 6 ∨ k = 9) := by unfold downK; rfl
theorem kind_spec (k : Int) (hk : 1 ≤ k ∧ k ≤ 11) (st : St) : ASpec Try.prog 120 [.int .i8 k] st fun v st' => v = .tup [.agg [.bool (downK k), .sl .clip (fds (fieldsOf k)), suchV k (st.heap.length + 2)], .bool true] ∧ ∃ x y, st' = ⟨st.heap ++ [x, y, .cells false [fnA 172]], st.toks⟩ := by
  refine raw_of C3s F120 rfl ?_
  obtain h | h | h | h | h | h | h | h | h | h | h : k = 1 ∨ k = 2 ∨ k = 3 ∨ k = 4 ∨ k = 5 ∨ k = 6 ∨ k = 7 ∨ k = 8 ∨ k = 9 ∨ k = 10 ∨ k = 11 := by omega
  all_goals
    subst h
    simp (disch := first | omega | (simp only [LL]; omega)) [WW, c120, allC]
    repeat' first
      | (refine region_static rfl (by decide +kernel) ?_; try simp (disch := first | omega | (simp only [LL]; omega)) [WW, allC])
      | (refine And.intro (by omega) ?_; try simp (disch := first | omega | (simp only [LL]; omega)) [WW, allC])
      | (refine guardK_ndec (fun h => ?_) (fun h => ?_) <;> (try simp (disch := first | omega | (simp only [LL]; omega)) [h, WW, allC]))
      | (refine guardK_dec (fun h => ?_) (fun h => ?_) <;> (try simp (disch := first | omega | (simp only [LL]; omega)) [h, WW, allC]))
      | (refine guardK_nbeq (fun h => ?_) (fun h => ?_) <;> (try simp (disch := first | omega | (simp only [LL]; omega)) [h, WW, allC]))
      | (refine guardK_beq (fun h => ?_) (fun h => ?_) <;> (try simp (disch := first | omega | (simp only [LL]; omega)) [h, WW, allC]))
      | (refine guardK_bne (fun h => ?_) (fun h => ?_) <;> (try simp (disch := first | omega | (simp only [LL]; omega)) [h, WW, allC]))
      | (refine guardK_not (fun h => ?_) (fun h => ?_) <;> (try simp (disch := first | omega | (simp only [LL]; omega)) [h, WW, allC]))
      | (refine guardK_split (fun h => ?_) (fun h => ?_) <;> (try simp (disch := first | omega | (simp only [LL]; omega)) [h, WW, allC]))
      | (refine condK_ndec (fun h => ?_) (fun h => ?_) <;> (try simp (disch := first | omega | (simp only [LL]; omega)) [h, WW, allC]))
      | (refine condK_dec (fun h => ?_) (fun h => ?_) <;> (try simp (disch := first | omega | (simp only [LL]; omega)) [h, WW, allC]))
      | (refine condK_nbeq (fun h => ?_) (fun h => ?_) <;> (try simp (disch := first | omega | (simp only [LL]; omega)) [h, WW, allC]))
      | (refine condK_beq (fun h => ?_) (fun h => ?_) <;> (try simp (disch := first | omega | (simp only [LL]; omega)) [h, WW, allC]))
      | (refine condK_bne (fun h => ?_) (fun h => ?_) <;> (try simp (disch := first | omega | (simp only [LL]; omega)) [h, WW, allC]))
      | (refine condK_not (fun h => ?_) (fun h => ?_) <;> (try simp (disch := first | omega | (simp only [LL]; omega)) [h, WW, allC]))
      | (refine condK_split (fun h => ?_) (fun h => ?_) <;> (try simp (disch := first | omega | (simp only [LL]; omega)) [h, WW, allC]))
    refine .inl ⟨by simp, by simp, ?_, ?_⟩
    · simp [downK_eq, fieldsOf, fds, fdA, suchV, ints]
    · exact ⟨_, _, rfl⟩
theorem kind_no (k : Int) (hk : ¬ (1 ≤ k ∧ k ≤ 11)) (st : St) : ASpec Try.prog 120 [.int .i8 k] st fun v st' => v = .tup [.agg [.bool false, .sl .clip [], .nilfn], .bool false] ∧ ∃ x y, st' = ⟨st.heap ++ [x, y, .cells false [fnA 172]], st.toks⟩ := by
  refine raw_of C3s F120 rfl ?_
  have e1 : ¬ k = 1 := by omega
  have e2 : ¬ k = 2 := by omega
  have e3 : ¬ k = 3 := by omega
  have e4 : ¬ k = 4 := by omega
  have e5 : ¬ k = 5 := by omega
  have e6 : ¬ k = 6 := by omega
  have e7 : ¬ k = 7 := by omega
  have e8 : ¬ k = 8 := by omega
  have e9 : ¬ k = 9 := by omega
  have e10 : ¬ k = 10 := by omega
  have e11 : ¬ k = 11 := by omega
  simp (disch := first | omega | (simp only [LL]; omega)) [WW, c120, allC, e1, e2, e3, e4, e5, e6, e7, e8, e9, e10, e11]
  refine .inl ⟨by simp, by simp, rfl, _, _, rfl⟩
end Go.Proofs.Ytjceilhmgbdgiaa

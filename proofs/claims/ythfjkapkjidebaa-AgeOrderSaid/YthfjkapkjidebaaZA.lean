/- Names: plain data, their order; Older, Waits. -/
import Derived.Test.YthfjkapkjidebaaZCode
import Derived.Test.YthfjkapkjidebaaZAmMaps
set_option linter.all false
namespace Go.Proofs.Ythfjkapkjidebaa
open Go.Am

structure Nm where
  stamp : Int
  inc : Int
  tr : Int
  deriving DecidableEq
@[simp] def nmC (n : Nm) : List AV := [.int .i64 n.stamp, .int .i64 n.inc, .int .i64 n.tr]
@[simp] def nmA (n : Nm) : AV := .agg [.int .i64 n.stamp, .int .i64 n.inc, .int .i64 n.tr]
@[simp] theorem nm_eta (n : Nm) : Nm.mk n.stamp n.inc n.tr = n := rfl
def nms (l : List Nm) : List AV := l.map nmA
@[simp] theorem nms_length (l : List Nm) : (nms l).length = l.length := by simp [nms]
@[simp] theorem nms_nil : nms [] = [] := rfl
@[simp] theorem nms_get (l : List Nm) (i : Nat) : (nms l)[i]? = l[i]?.map nmA := by simp [nms]
@[simp] theorem nms_allSz (l : List Nm) : allSz 3 (nms l) = true := allSz_map _ _ _ fun _ => rfl
@[simp] theorem nms_norm (l : List Nm) : normL (nms l) = nms l := normL_map _ _ fun x => by simp
@[simp] theorem nms_ok (l : List Nm) (n m : Nat) : okL n m (nms l) = true := okL_map _ _ fun x _ => by simp
@[simp] theorem nms_take (l : List Nm) (n : Nat) : (nms l).take n = nms (l.take n) := by simp [nms, List.map_take]
@[simp] theorem nms_drop (l : List Nm) (n : Nat) : (nms l).drop n = nms (l.drop n) := by simp [nms, List.map_drop]
@[simp] theorem nms_app (a b : List Nm) : nms a ++ nms b = nms (a ++ b) := by simp [nms]
theorem nms_snoc (l : List Nm) (n : Nm) : nms l ++ [.agg [.int .i64 n.stamp, .int .i64 n.inc, .int .i64 n.tr]] = nms (l ++ [n]) := by simp [nms]
theorem nms_one (n : Nm) : [.agg [.int .i64 n.stamp, .int .i64 n.inc, .int .i64 n.tr]] = nms [n] := rfl
theorem nm_beq (a b : Nm) : (a.stamp == b.stamp && (a.inc == b.inc && a.tr == b.tr)) = decide (a = b) := by
  cases a; cases b
  rw [Bool.eq_iff_iff]
  simp
theorem nm_key : KeyOf (.flat [0, 0, 0]) nmA := by
  intro a b
  simp [keyEqA, nm_beq]

def lessN (a b : Nm) : Bool := decide (a.stamp < b.stamp ∨ a.stamp = b.stamp ∧ (a.inc < b.inc ∨ a.inc = b.inc ∧ a.tr < b.tr))
theorem rless_spec (a b : Nm) (st : St) : ASpec Try.prog 13 [.agg (nmC a), .agg (nmC b)] st fun v st' => v = .bool (lessN a b) ∧ st' = st := by
  refine pure_of (R := fun v => v = _) OSound.none F13 rfl ?_
  simp (disch := first | omega | (simp only [List.length_take, List.length_drop, List.length_append, List.length_cons, List.length_nil, List.length_map]; omega)) [IntWalk.i64_in, IntWalk.i64_quo, c13]
  repeat' first
    | (refine region_static rfl (by decide +kernel) ?_; try simp (disch := first | omega | (simp only [List.length_take, List.length_drop, List.length_append, List.length_cons, List.length_nil, List.length_map]; omega)) [IntWalk.i64_in, IntWalk.i64_quo])
    | (refine And.intro (by omega) ?_; try simp (disch := first | omega | (simp only [List.length_take, List.length_drop, List.length_append, List.length_cons, List.length_nil, List.length_map]; omega)) [IntWalk.i64_in, IntWalk.i64_quo])
    | (refine guardK_ndec (fun h => ?_) (fun h => ?_) <;> (try simp (disch := first | omega | (simp only [List.length_take, List.length_drop, List.length_append, List.length_cons, List.length_nil, List.length_map]; omega)) [h, IntWalk.i64_in, IntWalk.i64_quo]))
    | (refine guardK_dec (fun h => ?_) (fun h => ?_) <;> (try simp (disch := first | omega | (simp only [List.length_take, List.length_drop, List.length_append, List.length_cons, List.length_nil, List.length_map]; omega)) [h, IntWalk.i64_in, IntWalk.i64_quo]))
    | (refine guardK_nbeq (fun h => ?_) (fun h => ?_) <;> (try simp (disch := first | omega | (simp only [List.length_take, List.length_drop, List.length_append, List.length_cons, List.length_nil, List.length_map]; omega)) [h, IntWalk.i64_in, IntWalk.i64_quo]))
    | (refine guardK_beq (fun h => ?_) (fun h => ?_) <;> (try simp (disch := first | omega | (simp only [List.length_take, List.length_drop, List.length_append, List.length_cons, List.length_nil, List.length_map]; omega)) [h, IntWalk.i64_in, IntWalk.i64_quo]))
    | (refine guardK_bne (fun h => ?_) (fun h => ?_) <;> (try simp (disch := first | omega | (simp only [List.length_take, List.length_drop, List.length_append, List.length_cons, List.length_nil, List.length_map]; omega)) [h, IntWalk.i64_in, IntWalk.i64_quo]))
    | (refine guardK_not (fun h => ?_) (fun h => ?_) <;> (try simp (disch := first | omega | (simp only [List.length_take, List.length_drop, List.length_append, List.length_cons, List.length_nil, List.length_map]; omega)) [h, IntWalk.i64_in, IntWalk.i64_quo]))
    | (refine guardK_split (fun h => ?_) (fun h => ?_) <;> (try simp (disch := first | omega | (simp only [List.length_take, List.length_drop, List.length_append, List.length_cons, List.length_nil, List.length_map]; omega)) [h, IntWalk.i64_in, IntWalk.i64_quo]))
    | (refine condK_ndec (fun h => ?_) (fun h => ?_) <;> (try simp (disch := first | omega | (simp only [List.length_take, List.length_drop, List.length_append, List.length_cons, List.length_nil, List.length_map]; omega)) [h, IntWalk.i64_in, IntWalk.i64_quo]))
    | (refine condK_dec (fun h => ?_) (fun h => ?_) <;> (try simp (disch := first | omega | (simp only [List.length_take, List.length_drop, List.length_append, List.length_cons, List.length_nil, List.length_map]; omega)) [h, IntWalk.i64_in, IntWalk.i64_quo]))
    | (refine condK_nbeq (fun h => ?_) (fun h => ?_) <;> (try simp (disch := first | omega | (simp only [List.length_take, List.length_drop, List.length_append, List.length_cons, List.length_nil, List.length_map]; omega)) [h, IntWalk.i64_in, IntWalk.i64_quo]))
    | (refine condK_beq (fun h => ?_) (fun h => ?_) <;> (try simp (disch := first | omega | (simp only [List.length_take, List.length_drop, List.length_append, List.length_cons, List.length_nil, List.length_map]; omega)) [h, IntWalk.i64_in, IntWalk.i64_quo]))
    | (refine condK_bne (fun h => ?_) (fun h => ?_) <;> (try simp (disch := first | omega | (simp only [List.length_take, List.length_drop, List.length_append, List.length_cons, List.length_nil, List.length_map]; omega)) [h, IntWalk.i64_in, IntWalk.i64_quo]))
    | (refine condK_not (fun h => ?_) (fun h => ?_) <;> (try simp (disch := first | omega | (simp only [List.length_take, List.length_drop, List.length_append, List.length_cons, List.length_nil, List.length_map]; omega)) [h, IntWalk.i64_in, IntWalk.i64_quo]))
    | (refine condK_split (fun h => ?_) (fun h => ?_) <;> (try simp (disch := first | omega | (simp only [List.length_take, List.length_drop, List.length_append, List.length_cons, List.length_nil, List.length_map]; omega)) [h, IntWalk.i64_in, IntWalk.i64_quo]))
  all_goals (simp [lessN, *]; try omega)
theorem nan_spec (n : Int) (st : St) : ASpec Try.prog 68 [.int .i64 n] st fun v st' => v = .bool false ∧ st' = st := by
  refine pure_of (R := fun v => v = _) OSound.none F68 rfl ?_
  simp (disch := first | omega | (simp only [List.length_take, List.length_drop, List.length_append, List.length_cons, List.length_nil, List.length_map]; omega)) [IntWalk.i64_in, IntWalk.i64_quo, c68]
attribute [irreducible] lessN
noncomputable def A4 : Orc := Orc.none.add 13 (tab (fun x : Int × Int × Int × Int × Int × Int => [.agg [.int .i64 x.1, .int .i64 x.2.1, .int .i64 x.2.2.1], .agg [.int .i64 x.2.2.2.1, .int .i64 x.2.2.2.2.1, .int .i64 x.2.2.2.2.2]]) (fun x => .bool (lessN ⟨x.1, x.2.1, x.2.2.1⟩ ⟨x.2.2.2.1, x.2.2.2.2.1, x.2.2.2.2.2⟩)) fun x => True)
theorem A4s : OSound Try.prog A4 := OSound.none.tab fun x h st => rless_spec ⟨x.1, x.2.1, x.2.2.1⟩ ⟨x.2.2.2.1, x.2.2.2.2.1, x.2.2.2.2.2⟩ st
@[simp] theorem A4_13 (a : Int) (b : Int) (c : Int) (d : Int) (e : Int) (f : Int) : A4 13 [.agg [.int .i64 a, .int .i64 b, .int .i64 c], .agg [.int .i64 d, .int .i64 e, .int .i64 f]] = some (.bool (lessN ⟨a, b, c⟩ ⟨d, e, f⟩)) := by
  rw [A4, Orc.add_same]
  exact tab_eq (fun x y h => by simp at h; simp [h]) (x := (a, b, c, d, e, f)) trivial
@[simp] theorem A4_o (f : Nat) (args : List AV) (h : f ≠ 13) : A4 f args = Orc.none f args := by
  rw [A4, Orc.add_other _ _ _ _ _ h]
noncomputable def A5 : Orc := A4.add 68 (tab (fun x : Int => [.int .i64 x]) (fun x => .bool false) fun x => True)
theorem A5s : OSound Try.prog A5 := A4s.tab fun x h st => nan_spec x st
@[simp] theorem A5_68 (n : Int) : A5 68 [.int .i64 n] = some (.bool false) := by
  rw [A5, Orc.add_same]
  exact tab_eq (fun x y h => by simp at h; simp [h]) (x := (n)) trivial
@[simp] theorem A5_o (f : Nat) (args : List AV) (h : f ≠ 68) : A5 f args = A4 f args := by
  rw [A5, Orc.add_other _ _ _ _ _ h]
def cmpI (a b : Int) : Int := if a < b then -1 else if b < a then 1 else 0
theorem cmp_spec (a b : Int) (st : St) : ASpec Try.prog 60 [.int .i64 a, .int .i64 b] st fun v st' => v = .int .i64 (cmpI a b) ∧ st' = st := by
  refine pure_of (R := fun v => v = _) A5s F60 rfl ?_
  simp (disch := first | omega | (simp only [List.length_take, List.length_drop, List.length_append, List.length_cons, List.length_nil, List.length_map]; omega)) [IntWalk.i64_in, IntWalk.i64_quo, c60]
  repeat' first
    | (refine region_static rfl (by decide +kernel) ?_; try simp (disch := first | omega | (simp only [List.length_take, List.length_drop, List.length_append, List.length_cons, List.length_nil, List.length_map]; omega)) [IntWalk.i64_in, IntWalk.i64_quo])
    | (refine And.intro (by omega) ?_; try simp (disch := first | omega | (simp only [List.length_take, List.length_drop, List.length_append, List.length_cons, List.length_nil, List.length_map]; omega)) [IntWalk.i64_in, IntWalk.i64_quo])
    | (refine guardK_ndec (fun h => ?_) (fun h => ?_) <;> (try simp (disch := first | omega | (simp only [List.length_take, List.length_drop, List.length_append, List.length_cons, List.length_nil, List.length_map]; omega)) [h, IntWalk.i64_in, IntWalk.i64_quo]))
    | (refine guardK_dec (fun h => ?_) (fun h => ?_) <;> (try simp (disch := first | omega | (simp only [List.length_take, List.length_drop, List.length_append, List.length_cons, List.length_nil, List.length_map]; omega)) [h, IntWalk.i64_in, IntWalk.i64_quo]))
    | (refine guardK_nbeq (fun h => ?_) (fun h => ?_) <;> (try simp (disch := first | omega | (simp only [List.length_take, List.length_drop, List.length_append, List.length_cons, List.length_nil, List.length_map]; omega)) [h, IntWalk.i64_in, IntWalk.i64_quo]))
    | (refine guardK_beq (fun h => ?_) (fun h => ?_) <;> (try simp (disch := first | omega | (simp only [List.length_take, List.length_drop, List.length_append, List.length_cons, List.length_nil, List.length_map]; omega)) [h, IntWalk.i64_in, IntWalk.i64_quo]))
    | (refine guardK_bne (fun h => ?_) (fun h => ?_) <;> (try simp (disch := first | omega | (simp only [List.length_take, List.length_drop, List.length_append, List.length_cons, List.length_nil, List.length_map]; omega)) [h, IntWalk.i64_in, IntWalk.i64_quo]))
    | (refine guardK_not (fun h => ?_) (fun h => ?_) <;> (try simp (disch := first | omega | (simp only [List.length_take, List.length_drop, List.length_append, List.length_cons, List.length_nil, List.length_map]; omega)) [h, IntWalk.i64_in, IntWalk.i64_quo]))
    | (refine guardK_split (fun h => ?_) (fun h => ?_) <;> (try simp (disch := first | omega | (simp only [List.length_take, List.length_drop, List.length_append, List.length_cons, List.length_nil, List.length_map]; omega)) [h, IntWalk.i64_in, IntWalk.i64_quo]))
    | (refine condK_ndec (fun h => ?_) (fun h => ?_) <;> (try simp (disch := first | omega | (simp only [List.length_take, List.length_drop, List.length_append, List.length_cons, List.length_nil, List.length_map]; omega)) [h, IntWalk.i64_in, IntWalk.i64_quo]))
    | (refine condK_dec (fun h => ?_) (fun h => ?_) <;> (try simp (disch := first | omega | (simp only [List.length_take, List.length_drop, List.length_append, List.length_cons, List.length_nil, List.length_map]; omega)) [h, IntWalk.i64_in, IntWalk.i64_quo]))
    | (refine condK_nbeq (fun h => ?_) (fun h => ?_) <;> (try simp (disch := first | omega | (simp only [List.length_take, List.length_drop, List.length_append, List.length_cons, List.length_nil, List.length_map]; omega)) [h, IntWalk.i64_in, IntWalk.i64_quo]))
    | (refine condK_beq (fun h => ?_) (fun h => ?_) <;> (try simp (disch := first | omega | (simp only [List.length_take, List.length_drop, List.length_append, List.length_cons, List.length_nil, List.length_map]; omega)) [h, IntWalk.i64_in, IntWalk.i64_quo]))
    | (refine condK_bne (fun h => ?_) (fun h => ?_) <;> (try simp (disch := first | omega | (simp only [List.length_take, List.length_drop, List.length_append, List.length_cons, List.length_nil, List.length_map]; omega)) [h, IntWalk.i64_in, IntWalk.i64_quo]))
    | (refine condK_not (fun h => ?_) (fun h => ?_) <;> (try simp (disch := first | omega | (simp only [List.length_take, List.length_drop, List.length_append, List.length_cons, List.length_nil, List.length_map]; omega)) [h, IntWalk.i64_in, IntWalk.i64_quo]))
    | (refine condK_split (fun h => ?_) (fun h => ?_) <;> (try simp (disch := first | omega | (simp only [List.length_take, List.length_drop, List.length_append, List.length_cons, List.length_nil, List.length_map]; omega)) [h, IntWalk.i64_in, IntWalk.i64_quo]))
  all_goals (simp [cmpI, *])
noncomputable def A6 : Orc := A5.add 60 (tab (fun x : Int × Int => [.int .i64 x.1, .int .i64 x.2]) (fun x => .int .i64 (cmpI x.1 x.2)) fun x => True)
theorem A6s : OSound Try.prog A6 := A5s.tab fun x h st => cmp_spec x.1 x.2 st
@[simp] theorem A6_60 (a : Int) (b : Int) : A6 60 [.int .i64 a, .int .i64 b] = some (.int .i64 (cmpI a b)) := by
  rw [A6, Orc.add_same]
  exact tab_eq (fun x y h => by simp at h; simp [h]) (x := (a, b)) trivial
@[simp] theorem A6_o (f : Nat) (args : List AV) (h : f ≠ 60) : A6 f args = A5 f args := by
  rw [A6, Orc.add_other _ _ _ _ _ h]
theorem or_spec (a b c : Int) (st : St) : ASpec Try.prog 59 [.sl .any [.int .i64 a, .int .i64 b, .int .i64 c]] st fun v st' => v = .int .i64 (if a ≠ 0 then a else if b ≠ 0 then b else c) ∧ st' = st := by
  refine pure_of (R := fun v => v = _) A6s F59 rfl ?_
  simp (disch := first | omega | (simp only [List.length_take, List.length_drop, List.length_append, List.length_cons, List.length_nil, List.length_map]; omega)) [IntWalk.i64_in, IntWalk.i64_quo, c59]
  refine awC_loopU 4 ?_
  simp (disch := first | omega | (simp only [List.length_take, List.length_drop, List.length_append, List.length_cons, List.length_nil, List.length_map]; omega)) [IntWalk.i64_in, IntWalk.i64_quo]
  repeat' first
    | (refine region_static rfl (by decide +kernel) ?_; try simp (disch := first | omega | (simp only [List.length_take, List.length_drop, List.length_append, List.length_cons, List.length_nil, List.length_map]; omega)) [IntWalk.i64_in, IntWalk.i64_quo])
    | (refine And.intro (by omega) ?_; try simp (disch := first | omega | (simp only [List.length_take, List.length_drop, List.length_append, List.length_cons, List.length_nil, List.length_map]; omega)) [IntWalk.i64_in, IntWalk.i64_quo])
    | (refine guardK_ndec (fun h => ?_) (fun h => ?_) <;> (try simp (disch := first | omega | (simp only [List.length_take, List.length_drop, List.length_append, List.length_cons, List.length_nil, List.length_map]; omega)) [h, IntWalk.i64_in, IntWalk.i64_quo]))
    | (refine guardK_dec (fun h => ?_) (fun h => ?_) <;> (try simp (disch := first | omega | (simp only [List.length_take, List.length_drop, List.length_append, List.length_cons, List.length_nil, List.length_map]; omega)) [h, IntWalk.i64_in, IntWalk.i64_quo]))
    | (refine guardK_nbeq (fun h => ?_) (fun h => ?_) <;> (try simp (disch := first | omega | (simp only [List.length_take, List.length_drop, List.length_append, List.length_cons, List.length_nil, List.length_map]; omega)) [h, IntWalk.i64_in, IntWalk.i64_quo]))
    | (refine guardK_beq (fun h => ?_) (fun h => ?_) <;> (try simp (disch := first | omega | (simp only [List.length_take, List.length_drop, List.length_append, List.length_cons, List.length_nil, List.length_map]; omega)) [h, IntWalk.i64_in, IntWalk.i64_quo]))
    | (refine guardK_bne (fun h => ?_) (fun h => ?_) <;> (try simp (disch := first | omega | (simp only [List.length_take, List.length_drop, List.length_append, List.length_cons, List.length_nil, List.length_map]; omega)) [h, IntWalk.i64_in, IntWalk.i64_quo]))
    | (refine guardK_not (fun h => ?_) (fun h => ?_) <;> (try simp (disch := first | omega | (simp only [List.length_take, List.length_drop, List.length_append, List.length_cons, List.length_nil, List.length_map]; omega)) [h, IntWalk.i64_in, IntWalk.i64_quo]))
    | (refine guardK_split (fun h => ?_) (fun h => ?_) <;> (try simp (disch := first | omega | (simp only [List.length_take, List.length_drop, List.length_append, List.length_cons, List.length_nil, List.length_map]; omega)) [h, IntWalk.i64_in, IntWalk.i64_quo]))
    | (refine condK_ndec (fun h => ?_) (fun h => ?_) <;> (try simp (disch := first | omega | (simp only [List.length_take, List.length_drop, List.length_append, List.length_cons, List.length_nil, List.length_map]; omega)) [h, IntWalk.i64_in, IntWalk.i64_quo]))
    | (refine condK_dec (fun h => ?_) (fun h => ?_) <;> (try simp (disch := first | omega | (simp only [List.length_take, List.length_drop, List.length_append, List.length_cons, List.length_nil, List.length_map]; omega)) [h, IntWalk.i64_in, IntWalk.i64_quo]))
    | (refine condK_nbeq (fun h => ?_) (fun h => ?_) <;> (try simp (disch := first | omega | (simp only [List.length_take, List.length_drop, List.length_append, List.length_cons, List.length_nil, List.length_map]; omega)) [h, IntWalk.i64_in, IntWalk.i64_quo]))
    | (refine condK_beq (fun h => ?_) (fun h => ?_) <;> (try simp (disch := first | omega | (simp only [List.length_take, List.length_drop, List.length_append, List.length_cons, List.length_nil, List.length_map]; omega)) [h, IntWalk.i64_in, IntWalk.i64_quo]))
    | (refine condK_bne (fun h => ?_) (fun h => ?_) <;> (try simp (disch := first | omega | (simp only [List.length_take, List.length_drop, List.length_append, List.length_cons, List.length_nil, List.length_map]; omega)) [h, IntWalk.i64_in, IntWalk.i64_quo]))
    | (refine condK_not (fun h => ?_) (fun h => ?_) <;> (try simp (disch := first | omega | (simp only [List.length_take, List.length_drop, List.length_append, List.length_cons, List.length_nil, List.length_map]; omega)) [h, IntWalk.i64_in, IntWalk.i64_quo]))
    | (refine condK_split (fun h => ?_) (fun h => ?_) <;> (try simp (disch := first | omega | (simp only [List.length_take, List.length_drop, List.length_append, List.length_cons, List.length_nil, List.length_map]; omega)) [h, IntWalk.i64_in, IntWalk.i64_quo]))
  all_goals (simp [*])
noncomputable def A7 : Orc := A6.add 59 (tab (fun x : Int × Int × Int => [.sl .any [.int .i64 x.1, .int .i64 x.2.1, .int .i64 x.2.2]]) (fun x => .int .i64 (if x.1 ≠ 0 then x.1 else if x.2.1 ≠ 0 then x.2.1 else x.2.2)) fun x => True)
theorem A7s : OSound Try.prog A7 := A6s.tab fun x h st => or_spec x.1 x.2.1 x.2.2 st
@[simp] theorem A7_59 (a : Int) (b : Int) (c : Int) : A7 59 [.sl .any [.int .i64 a, .int .i64 b, .int .i64 c]] = some (.int .i64 (if a ≠ 0 then a else if b ≠ 0 then b else c)) := by
  rw [A7, Orc.add_same]
  exact tab_eq (fun x y h => by simp at h; simp [h]) (x := (a, b, c)) trivial
@[simp] theorem A7_o (f : Nat) (args : List AV) (h : f ≠ 59) : A7 f args = A6 f args := by
  rw [A7, Orc.add_other _ _ _ _ _ h]
theorem less_spec (a b : Nm) (st : St) : ASpec Try.prog 30 [.agg (nmC a), .agg (nmC b)] st fun v st' => v = .bool (lessN a b) ∧ st' = st := by
  refine pure_of (R := fun v => v = _) A7s F30 rfl ?_
  simp (disch := first | omega | (simp only [List.length_take, List.length_drop, List.length_append, List.length_cons, List.length_nil, List.length_map]; omega)) [IntWalk.i64_in, IntWalk.i64_quo, c30]
  repeat' first
    | (refine region_static rfl (by decide +kernel) ?_; try simp (disch := first | omega | (simp only [List.length_take, List.length_drop, List.length_append, List.length_cons, List.length_nil, List.length_map]; omega)) [IntWalk.i64_in, IntWalk.i64_quo])
    | (refine And.intro (by omega) ?_; try simp (disch := first | omega | (simp only [List.length_take, List.length_drop, List.length_append, List.length_cons, List.length_nil, List.length_map]; omega)) [IntWalk.i64_in, IntWalk.i64_quo])
    | (refine guardK_ndec (fun h => ?_) (fun h => ?_) <;> (try simp (disch := first | omega | (simp only [List.length_take, List.length_drop, List.length_append, List.length_cons, List.length_nil, List.length_map]; omega)) [h, IntWalk.i64_in, IntWalk.i64_quo]))
    | (refine guardK_dec (fun h => ?_) (fun h => ?_) <;> (try simp (disch := first | omega | (simp only [List.length_take, List.length_drop, List.length_append, List.length_cons, List.length_nil, List.length_map]; omega)) [h, IntWalk.i64_in, IntWalk.i64_quo]))
    | (refine guardK_nbeq (fun h => ?_) (fun h => ?_) <;> (try simp (disch := first | omega | (simp only [List.length_take, List.length_drop, List.length_append, List.length_cons, List.length_nil, List.length_map]; omega)) [h, IntWalk.i64_in, IntWalk.i64_quo]))
    | (refine guardK_beq (fun h => ?_) (fun h => ?_) <;> (try simp (disch := first | omega | (simp only [List.length_take, List.length_drop, List.length_append, List.length_cons, List.length_nil, List.length_map]; omega)) [h, IntWalk.i64_in, IntWalk.i64_quo]))
    | (refine guardK_bne (fun h => ?_) (fun h => ?_) <;> (try simp (disch := first | omega | (simp only [List.length_take, List.length_drop, List.length_append, List.length_cons, List.length_nil, List.length_map]; omega)) [h, IntWalk.i64_in, IntWalk.i64_quo]))
    | (refine guardK_not (fun h => ?_) (fun h => ?_) <;> (try simp (disch := first | omega | (simp only [List.length_take, List.length_drop, List.length_append, List.length_cons, List.length_nil, List.length_map]; omega)) [h, IntWalk.i64_in, IntWalk.i64_quo]))
    | (refine guardK_split (fun h => ?_) (fun h => ?_) <;> (try simp (disch := first | omega | (simp only [List.length_take, List.length_drop, List.length_append, List.length_cons, List.length_nil, List.length_map]; omega)) [h, IntWalk.i64_in, IntWalk.i64_quo]))
    | (refine condK_ndec (fun h => ?_) (fun h => ?_) <;> (try simp (disch := first | omega | (simp only [List.length_take, List.length_drop, List.length_append, List.length_cons, List.length_nil, List.length_map]; omega)) [h, IntWalk.i64_in, IntWalk.i64_quo]))
    | (refine condK_dec (fun h => ?_) (fun h => ?_) <;> (try simp (disch := first | omega | (simp only [List.length_take, List.length_drop, List.length_append, List.length_cons, List.length_nil, List.length_map]; omega)) [h, IntWalk.i64_in, IntWalk.i64_quo]))
    | (refine condK_nbeq (fun h => ?_) (fun h => ?_) <;> (try simp (disch := first | omega | (simp only [List.length_take, List.length_drop, List.length_append, List.length_cons, List.length_nil, List.length_map]; omega)) [h, IntWalk.i64_in, IntWalk.i64_quo]))
    | (refine condK_beq (fun h => ?_) (fun h => ?_) <;> (try simp (disch := first | omega | (simp only [List.length_take, List.length_drop, List.length_append, List.length_cons, List.length_nil, List.length_map]; omega)) [h, IntWalk.i64_in, IntWalk.i64_quo]))
    | (refine condK_bne (fun h => ?_) (fun h => ?_) <;> (try simp (disch := first | omega | (simp only [List.length_take, List.length_drop, List.length_append, List.length_cons, List.length_nil, List.length_map]; omega)) [h, IntWalk.i64_in, IntWalk.i64_quo]))
    | (refine condK_not (fun h => ?_) (fun h => ?_) <;> (try simp (disch := first | omega | (simp only [List.length_take, List.length_drop, List.length_append, List.length_cons, List.length_nil, List.length_map]; omega)) [h, IntWalk.i64_in, IntWalk.i64_quo]))
    | (refine condK_split (fun h => ?_) (fun h => ?_) <;> (try simp (disch := first | omega | (simp only [List.length_take, List.length_drop, List.length_append, List.length_cons, List.length_nil, List.length_map]; omega)) [h, IntWalk.i64_in, IntWalk.i64_quo]))
  all_goals (unfold lessN; simp only [cmpI] at *; repeat' split) <;> simp <;> omega
noncomputable def A8 : Orc := A7.add 30 (tab (fun x : Int × Int × Int × Int × Int × Int => [.agg [.int .i64 x.1, .int .i64 x.2.1, .int .i64 x.2.2.1], .agg [.int .i64 x.2.2.2.1, .int .i64 x.2.2.2.2.1, .int .i64 x.2.2.2.2.2]]) (fun x => .bool (lessN ⟨x.1, x.2.1, x.2.2.1⟩ ⟨x.2.2.2.1, x.2.2.2.2.1, x.2.2.2.2.2⟩)) fun x => True)
theorem A8s : OSound Try.prog A8 := A7s.tab fun x h st => less_spec ⟨x.1, x.2.1, x.2.2.1⟩ ⟨x.2.2.2.1, x.2.2.2.2.1, x.2.2.2.2.2⟩ st
@[simp] theorem A8_30 (a : Int) (b : Int) (c : Int) (d : Int) (e : Int) (f : Int) : A8 30 [.agg [.int .i64 a, .int .i64 b, .int .i64 c], .agg [.int .i64 d, .int .i64 e, .int .i64 f]] = some (.bool (lessN ⟨a, b, c⟩ ⟨d, e, f⟩)) := by
  rw [A8, Orc.add_same]
  exact tab_eq (fun x y h => by simp at h; simp [h]) (x := (a, b, c, d, e, f)) trivial
@[simp] theorem A8_o (f : Nat) (args : List AV) (h : f ≠ 30) : A8 f args = A7 f args := by
  rw [A8, Orc.add_other _ _ _ _ _ h]
theorem lessN_iff (a b : Nm) : lessN a b = true ↔ (a.stamp < b.stamp ∨ a.stamp = b.stamp ∧ (a.inc < b.inc ∨ a.inc = b.inc ∧ a.tr < b.tr)) := by
  unfold lessN
  exact decide_eq_true_iff
theorem lessN_asymm {a b : Nm} (h : lessN a b = true) : lessN b a = false := by
  rw [← Bool.not_eq_true, lessN_iff]
  rw [lessN_iff] at h
  omega
theorem lessN_self (a : Nm) : lessN a a = false := by
  rw [← Bool.not_eq_true, lessN_iff]
  omega
theorem lessN_trans {a b c : Nm} (h1 : lessN a b = true) (h2 : lessN b c = true) : lessN a c = true := by
  rw [lessN_iff] at *
  omega
theorem lessN_eq {a b : Nm} (h1 : lessN a b = false) (h2 : lessN b a = false) : a = b := by
  rw [← Bool.not_eq_true, lessN_iff] at *
  obtain ⟨a1, a2, a3⟩ := a
  obtain ⟨b1, b2, b3⟩ := b
  simp only [Nm.mk.injEq] at *
  omega
def olderN (a b : Nm) : Bool := decide (a.stamp < b.stamp)
theorem older_spec (a b : Nm) (st : St) : ASpec Try.prog 10 [.agg (nmC a), .agg (nmC b)] st fun v st' => v = .bool (olderN a b) ∧ st' = st := by
  refine pure_of (R := fun v => v = _) A8s F10 rfl ?_
  simp (disch := first | omega | (simp only [List.length_take, List.length_drop, List.length_append, List.length_cons, List.length_nil, List.length_map]; omega)) [IntWalk.i64_in, IntWalk.i64_quo, c10]
  simp [olderN]
theorem olderN_iff {a b : Nm} : olderN a b = true ↔ a.stamp < b.stamp := by simp [olderN]
attribute [irreducible] olderN
noncomputable def A9 : Orc := A8.add 10 (tab (fun x : Int × Int × Int × Int × Int × Int => [.agg [.int .i64 x.1, .int .i64 x.2.1, .int .i64 x.2.2.1], .agg [.int .i64 x.2.2.2.1, .int .i64 x.2.2.2.2.1, .int .i64 x.2.2.2.2.2]]) (fun x => .bool (olderN ⟨x.1, x.2.1, x.2.2.1⟩ ⟨x.2.2.2.1, x.2.2.2.2.1, x.2.2.2.2.2⟩)) fun x => True)
theorem A9s : OSound Try.prog A9 := A8s.tab fun x h st => older_spec ⟨x.1, x.2.1, x.2.2.1⟩ ⟨x.2.2.2.1, x.2.2.2.2.1, x.2.2.2.2.2⟩ st
@[simp] theorem A9_10 (a : Int) (b : Int) (c : Int) (d : Int) (e : Int) (f : Int) : A9 10 [.agg [.int .i64 a, .int .i64 b, .int .i64 c], .agg [.int .i64 d, .int .i64 e, .int .i64 f]] = some (.bool (olderN ⟨a, b, c⟩ ⟨d, e, f⟩)) := by
  rw [A9, Orc.add_same]
  exact tab_eq (fun x y h => by simp at h; simp [h]) (x := (a, b, c, d, e, f)) trivial
@[simp] theorem A9_o (f : Nat) (args : List AV) (h : f ≠ 10) : A9 f args = A8 f args := by
  rw [A9, Orc.add_other _ _ _ _ _ h]
def waitsN (n : Nm) (l : List Nm) : Bool := l.all fun x => olderN n x
theorem waits_spec (n : Nm) (l : List Nm) (st : St) (hl : l.length ≤ 1048576) : ASpec Try.prog 9 [.agg (nmC n), .sl .any (nms l)] st fun v st' => v = .bool (waitsN n l) ∧ st' = st := by
  refine pure_of (R := fun v => v = _) A9s F9 rfl ?_
  simp (disch := first | omega | (simp only [List.length_take, List.length_drop, List.length_append, List.length_cons, List.length_nil, List.length_map]; omega)) [IntWalk.i64_in, IntWalk.i64_quo, c9]
  refine awC_loopW (fun k env s => ∃ i g gt, k + i = l.length ∧ env 2 = .rptr (nmA n) ∧ env 7 = .sl .any (nms l) ∧ env 8 = .int .i64 l.length ∧ env 9 = .int .i64 i ∧ s = ⟨st.heap ++ g, st.toks ++ gt⟩ ∧ waitsN n (l.take i) = true) l.length ?_ ?_
  · exact ⟨0, [], [], by simp [waitsN]⟩
  rintro k env s ⟨i, g, gt, hk, e2, e7, e8, e9, rfl, hw⟩
  by_cases hi : i < l.length
  · have hi' : (i : Int) < l.length := by omega
    have hst : waitsN n (l.take (i + 1)) = (waitsN n (l.take i) && olderN n l[i]) := by
      simp only [waitsN, List.take_succ_eq_append_getElem hi, List.all_append, List.all_cons, List.all_nil, Bool.and_true]
    by_cases ho : olderN n l[i] = true
    · simp (disch := first | omega | (simp only [List.length_take, List.length_drop, List.length_append, List.length_cons, List.length_nil, List.length_map]; omega)) [IntWalk.i64_in, IntWalk.i64_quo, e2, e7, e8, e9, hi, hi', ho]
      exact ⟨k - 1, by omega, i + 1, by omega, by omega, by rw [hst, hw, ho]; rfl⟩
    · have hf : waitsN n l = false := by
        rw [← Bool.not_eq_true]
        intro hall
        simp only [waitsN, List.all_eq_true] at hall
        exact ho (hall _ (List.getElem_mem hi))
      simp (disch := first | omega | (simp only [List.length_take, List.length_drop, List.length_append, List.length_cons, List.length_nil, List.length_map]; omega)) [IntWalk.i64_in, IntWalk.i64_quo, e2, e7, e8, e9, hi, hi', ho, hf]
  · have hi' : ¬ (i : Int) < l.length := by omega
    rw [List.take_of_length_le (by omega)] at hw
    simp (disch := first | omega | (simp only [List.length_take, List.length_drop, List.length_append, List.length_cons, List.length_nil, List.length_map]; omega)) [IntWalk.i64_in, IntWalk.i64_quo, e2, e7, e8, e9, hi', hw]
end Go.Proofs.Ythfjkapkjidebaa

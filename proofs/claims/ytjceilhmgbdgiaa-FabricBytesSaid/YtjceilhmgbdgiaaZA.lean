/- Messages: plain data; names, writes. -/
import Derived.Test.YtjceilhmgbdgiaaZCodeW
set_option linter.all false
namespace Go.Proofs.Ytjceilhmgbdgiaa
open Go.Am

structure Nm where
  stamp : Int
  inc : Int
  tr : Int
  deriving DecidableEq
@[simp] def nmC (n : Nm) : List AV := [.int .i64 n.stamp, .int .i64 n.inc, .int .i64 n.tr]
structure Wr where
  block : Int
  v0 : UInt8
  v1 : UInt8
  v2 : UInt8
  v3 : UInt8
  v4 : UInt8
  v5 : UInt8
  v6 : UInt8
  v7 : UInt8
  deriving DecidableEq
@[simp] def wrA (w : Wr) : AV := .agg [.int .i64 w.block, u8 w.v0, u8 w.v1, u8 w.v2, u8 w.v3, u8 w.v4, u8 w.v5, u8 w.v6, u8 w.v7]
def wrs (l : List Wr) : List AV := l.map wrA
@[simp] theorem wrs_length (l : List Wr) : (wrs l).length = l.length := by simp [wrs]
@[simp] theorem wrs_nil : wrs [] = [] := rfl
@[simp] theorem wrs_get (l : List Wr) (i : Nat) : (wrs l)[i]? = l[i]?.map wrA := by simp [wrs]
@[simp] theorem wrs_allSz (l : List Wr) : allSz 9 (wrs l) = true := allSz_map _ _ _ fun _ => rfl
@[simp] theorem wrs_norm (l : List Wr) : normL (wrs l) = wrs l := normL_map _ _ fun x => by simp
@[simp] theorem wrs_ok (l : List Wr) (n m : Nat) : okL n m (wrs l) = true := okL_map _ _ fun x _ => by simp
theorem wrA_inj {a b : Wr} (h : wrA a = wrA b) : a = b := by
  cases a; cases b
  simp at h
  simp [h]
@[simp] theorem wrs_inj {a b : List Wr} : wrs a = wrs b ↔ a = b := ⟨fun h => (List.map_inj_right (fun a b e => wrA_inj e)).1 h, fun h => h ▸ rfl⟩

def within (n a b : Int) : Bool := decide (a ≤ n ∧ n ≤ b)
theorem within_spec (n a b : Int) (st : St) : ASpec Try.prog 169 [.int .i64 n, .int .i64 a, .int .i64 b] st fun v st' => v = .bool (within n a b) ∧ st' = st := by
  refine pure_of (R := fun v => v = _) OSound.none F169 rfl ?_
  simp (disch := first | omega | (simp only [LL]; omega)) [WW, c169]
  repeat' first
    | (refine region_static rfl (by decide +kernel) ?_; try simp (disch := first | omega | (simp only [LL]; omega)) [WW])
    | (refine And.intro (by omega) ?_; try simp (disch := first | omega | (simp only [LL]; omega)) [WW])
    | (refine guardK_ndec (fun h => ?_) (fun h => ?_) <;> (try simp (disch := first | omega | (simp only [LL]; omega)) [h, WW]))
    | (refine guardK_dec (fun h => ?_) (fun h => ?_) <;> (try simp (disch := first | omega | (simp only [LL]; omega)) [h, WW]))
    | (refine guardK_nbeq (fun h => ?_) (fun h => ?_) <;> (try simp (disch := first | omega | (simp only [LL]; omega)) [h, WW]))
    | (refine guardK_beq (fun h => ?_) (fun h => ?_) <;> (try simp (disch := first | omega | (simp only [LL]; omega)) [h, WW]))
    | (refine guardK_bne (fun h => ?_) (fun h => ?_) <;> (try simp (disch := first | omega | (simp only [LL]; omega)) [h, WW]))
    | (refine guardK_not (fun h => ?_) (fun h => ?_) <;> (try simp (disch := first | omega | (simp only [LL]; omega)) [h, WW]))
    | (refine guardK_split (fun h => ?_) (fun h => ?_) <;> (try simp (disch := first | omega | (simp only [LL]; omega)) [h, WW]))
    | (refine condK_ndec (fun h => ?_) (fun h => ?_) <;> (try simp (disch := first | omega | (simp only [LL]; omega)) [h, WW]))
    | (refine condK_dec (fun h => ?_) (fun h => ?_) <;> (try simp (disch := first | omega | (simp only [LL]; omega)) [h, WW]))
    | (refine condK_nbeq (fun h => ?_) (fun h => ?_) <;> (try simp (disch := first | omega | (simp only [LL]; omega)) [h, WW]))
    | (refine condK_beq (fun h => ?_) (fun h => ?_) <;> (try simp (disch := first | omega | (simp only [LL]; omega)) [h, WW]))
    | (refine condK_bne (fun h => ?_) (fun h => ?_) <;> (try simp (disch := first | omega | (simp only [LL]; omega)) [h, WW]))
    | (refine condK_not (fun h => ?_) (fun h => ?_) <;> (try simp (disch := first | omega | (simp only [LL]; omega)) [h, WW]))
    | (refine condK_split (fun h => ?_) (fun h => ?_) <;> (try simp (disch := first | omega | (simp only [LL]; omega)) [h, WW]))
  all_goals (simp [within, *]; try (rw [Bool.eq_iff_iff]; simp))
theorem wwithin_spec (n a b : Int) (st : St) : ASpec Try.prog 121 [.int .i64 n, .int .i64 a, .int .i64 b] st fun v st' => v = .bool (within n a b) ∧ st' = st := by
  refine pure_of (R := fun v => v = _) OSound.none F121 rfl ?_
  simp (disch := first | omega | (simp only [LL]; omega)) [WW, c121]
  repeat' first
    | (refine region_static rfl (by decide +kernel) ?_; try simp (disch := first | omega | (simp only [LL]; omega)) [WW])
    | (refine And.intro (by omega) ?_; try simp (disch := first | omega | (simp only [LL]; omega)) [WW])
    | (refine guardK_ndec (fun h => ?_) (fun h => ?_) <;> (try simp (disch := first | omega | (simp only [LL]; omega)) [h, WW]))
    | (refine guardK_dec (fun h => ?_) (fun h => ?_) <;> (try simp (disch := first | omega | (simp only [LL]; omega)) [h, WW]))
    | (refine guardK_nbeq (fun h => ?_) (fun h => ?_) <;> (try simp (disch := first | omega | (simp only [LL]; omega)) [h, WW]))
    | (refine guardK_beq (fun h => ?_) (fun h => ?_) <;> (try simp (disch := first | omega | (simp only [LL]; omega)) [h, WW]))
    | (refine guardK_bne (fun h => ?_) (fun h => ?_) <;> (try simp (disch := first | omega | (simp only [LL]; omega)) [h, WW]))
    | (refine guardK_not (fun h => ?_) (fun h => ?_) <;> (try simp (disch := first | omega | (simp only [LL]; omega)) [h, WW]))
    | (refine guardK_split (fun h => ?_) (fun h => ?_) <;> (try simp (disch := first | omega | (simp only [LL]; omega)) [h, WW]))
    | (refine condK_ndec (fun h => ?_) (fun h => ?_) <;> (try simp (disch := first | omega | (simp only [LL]; omega)) [h, WW]))
    | (refine condK_dec (fun h => ?_) (fun h => ?_) <;> (try simp (disch := first | omega | (simp only [LL]; omega)) [h, WW]))
    | (refine condK_nbeq (fun h => ?_) (fun h => ?_) <;> (try simp (disch := first | omega | (simp only [LL]; omega)) [h, WW]))
    | (refine condK_beq (fun h => ?_) (fun h => ?_) <;> (try simp (disch := first | omega | (simp only [LL]; omega)) [h, WW]))
    | (refine condK_bne (fun h => ?_) (fun h => ?_) <;> (try simp (disch := first | omega | (simp only [LL]; omega)) [h, WW]))
    | (refine condK_not (fun h => ?_) (fun h => ?_) <;> (try simp (disch := first | omega | (simp only [LL]; omega)) [h, WW]))
    | (refine condK_split (fun h => ?_) (fun h => ?_) <;> (try simp (disch := first | omega | (simp only [LL]; omega)) [h, WW]))
  all_goals (simp [within, *]; try (rw [Bool.eq_iff_iff]; simp))
theorem ewithin_spec (n a b : Int) (st : St) : ASpec Try.prog 65 [.int .i64 n, .int .i64 a, .int .i64 b] st fun v st' => v = .bool (within n a b) ∧ st' = st := by
  refine pure_of (R := fun v => v = _) OSound.none F65 rfl ?_
  simp (disch := first | omega | (simp only [LL]; omega)) [WW, c65]
  repeat' first
    | (refine region_static rfl (by decide +kernel) ?_; try simp (disch := first | omega | (simp only [LL]; omega)) [WW])
    | (refine And.intro (by omega) ?_; try simp (disch := first | omega | (simp only [LL]; omega)) [WW])
    | (refine guardK_ndec (fun h => ?_) (fun h => ?_) <;> (try simp (disch := first | omega | (simp only [LL]; omega)) [h, WW]))
    | (refine guardK_dec (fun h => ?_) (fun h => ?_) <;> (try simp (disch := first | omega | (simp only [LL]; omega)) [h, WW]))
    | (refine guardK_nbeq (fun h => ?_) (fun h => ?_) <;> (try simp (disch := first | omega | (simp only [LL]; omega)) [h, WW]))
    | (refine guardK_beq (fun h => ?_) (fun h => ?_) <;> (try simp (disch := first | omega | (simp only [LL]; omega)) [h, WW]))
    | (refine guardK_bne (fun h => ?_) (fun h => ?_) <;> (try simp (disch := first | omega | (simp only [LL]; omega)) [h, WW]))
    | (refine guardK_not (fun h => ?_) (fun h => ?_) <;> (try simp (disch := first | omega | (simp only [LL]; omega)) [h, WW]))
    | (refine guardK_split (fun h => ?_) (fun h => ?_) <;> (try simp (disch := first | omega | (simp only [LL]; omega)) [h, WW]))
    | (refine condK_ndec (fun h => ?_) (fun h => ?_) <;> (try simp (disch := first | omega | (simp only [LL]; omega)) [h, WW]))
    | (refine condK_dec (fun h => ?_) (fun h => ?_) <;> (try simp (disch := first | omega | (simp only [LL]; omega)) [h, WW]))
    | (refine condK_nbeq (fun h => ?_) (fun h => ?_) <;> (try simp (disch := first | omega | (simp only [LL]; omega)) [h, WW]))
    | (refine condK_beq (fun h => ?_) (fun h => ?_) <;> (try simp (disch := first | omega | (simp only [LL]; omega)) [h, WW]))
    | (refine condK_bne (fun h => ?_) (fun h => ?_) <;> (try simp (disch := first | omega | (simp only [LL]; omega)) [h, WW]))
    | (refine condK_not (fun h => ?_) (fun h => ?_) <;> (try simp (disch := first | omega | (simp only [LL]; omega)) [h, WW]))
    | (refine condK_split (fun h => ?_) (fun h => ?_) <;> (try simp (disch := first | omega | (simp only [LL]; omega)) [h, WW]))
  all_goals (simp [within, *]; try (rw [Bool.eq_iff_iff]; simp))
theorem within_iff {n a b : Int} : within n a b = true ↔ a ≤ n ∧ n ≤ b := by simp [within]
theorem within_eq (n a b : Int) : within n a b = decide (a ≤ n ∧ n ≤ b) := rfl
attribute [irreducible] within
noncomputable def A1 : Orc := Orc.none.add 169 (tab (fun x : Int × Int × Int => [.int .i64 x.1, .int .i64 x.2.1, .int .i64 x.2.2]) (fun x => .bool (within x.1 x.2.1 x.2.2)) fun x => True)
theorem A1s : OSound Try.prog A1 := OSound.none.tab fun x h st => within_spec x.1 x.2.1 x.2.2 st
@[simp] theorem A1_169 (n : Int) (a : Int) (b : Int) : A1 169 [.int .i64 n, .int .i64 a, .int .i64 b] = some (.bool (within n a b)) := by
  rw [A1, Orc.add_same]
  exact tab_eq (fun x y h => by simp at h; simp [h]) (x := (n, a, b)) trivial
@[simp] theorem A1_o (f : Nat) (args : List AV) (h : f ≠ 169) : A1 f args = Orc.none f args := by
  rw [A1, Orc.add_other _ _ _ _ _ h]
noncomputable def A1b : Orc := A1.add 121 (tab (fun x : Int × Int × Int => [.int .i64 x.1, .int .i64 x.2.1, .int .i64 x.2.2]) (fun x => .bool (within x.1 x.2.1 x.2.2)) fun x => True)
theorem A1bs : OSound Try.prog A1b := A1s.tab fun x h st => wwithin_spec x.1 x.2.1 x.2.2 st
@[simp] theorem A1b_121 (n : Int) (a : Int) (b : Int) : A1b 121 [.int .i64 n, .int .i64 a, .int .i64 b] = some (.bool (within n a b)) := by
  rw [A1b, Orc.add_same]
  exact tab_eq (fun x y h => by simp at h; simp [h]) (x := (n, a, b)) trivial
@[simp] theorem A1b_o (f : Nat) (args : List AV) (h : f ≠ 121) : A1b f args = A1 f args := by
  rw [A1b, Orc.add_other _ _ _ _ _ h]
noncomputable def A1c : Orc := A1b.add 65 (tab (fun x : Int × Int × Int => [.int .i64 x.1, .int .i64 x.2.1, .int .i64 x.2.2]) (fun x => .bool (within x.1 x.2.1 x.2.2)) fun x => True)
theorem A1cs : OSound Try.prog A1c := A1bs.tab fun x h st => ewithin_spec x.1 x.2.1 x.2.2 st
@[simp] theorem A1c_65 (n : Int) (a : Int) (b : Int) : A1c 65 [.int .i64 n, .int .i64 a, .int .i64 b] = some (.bool (within n a b)) := by
  rw [A1c, Orc.add_same]
  exact tab_eq (fun x y h => by simp at h; simp [h]) (x := (n, a, b)) trivial
@[simp] theorem A1c_o (f : Nat) (args : List AV) (h : f ≠ 65) : A1c f args = A1b f args := by
  rw [A1c, Orc.add_other _ _ _ _ _ h]
def named (n : Nm) : Bool := within n.stamp 1 1048576 && within n.inc 1 1048576 && within n.tr 1 1048576
theorem named_spec (n : Nm) (st : St) : ASpec Try.prog 118 [.agg (nmC n)] st fun v st' => v = .bool (named n) ∧ st' = st := by
  refine pure_of (R := fun v => v = _) A1cs F118 rfl ?_
  simp (disch := first | omega | (simp only [LL]; omega)) [WW, c118]
  repeat' first
    | (refine region_static rfl (by decide +kernel) ?_; try simp (disch := first | omega | (simp only [LL]; omega)) [WW])
    | (refine And.intro (by omega) ?_; try simp (disch := first | omega | (simp only [LL]; omega)) [WW])
    | (refine guardK_ndec (fun h => ?_) (fun h => ?_) <;> (try simp (disch := first | omega | (simp only [LL]; omega)) [h, WW]))
    | (refine guardK_dec (fun h => ?_) (fun h => ?_) <;> (try simp (disch := first | omega | (simp only [LL]; omega)) [h, WW]))
    | (refine guardK_nbeq (fun h => ?_) (fun h => ?_) <;> (try simp (disch := first | omega | (simp only [LL]; omega)) [h, WW]))
    | (refine guardK_beq (fun h => ?_) (fun h => ?_) <;> (try simp (disch := first | omega | (simp only [LL]; omega)) [h, WW]))
    | (refine guardK_bne (fun h => ?_) (fun h => ?_) <;> (try simp (disch := first | omega | (simp only [LL]; omega)) [h, WW]))
    | (refine guardK_not (fun h => ?_) (fun h => ?_) <;> (try simp (disch := first | omega | (simp only [LL]; omega)) [h, WW]))
    | (refine guardK_split (fun h => ?_) (fun h => ?_) <;> (try simp (disch := first | omega | (simp only [LL]; omega)) [h, WW]))
    | (refine condK_ndec (fun h => ?_) (fun h => ?_) <;> (try simp (disch := first | omega | (simp only [LL]; omega)) [h, WW]))
    | (refine condK_dec (fun h => ?_) (fun h => ?_) <;> (try simp (disch := first | omega | (simp only [LL]; omega)) [h, WW]))
    | (refine condK_nbeq (fun h => ?_) (fun h => ?_) <;> (try simp (disch := first | omega | (simp only [LL]; omega)) [h, WW]))
    | (refine condK_beq (fun h => ?_) (fun h => ?_) <;> (try simp (disch := first | omega | (simp only [LL]; omega)) [h, WW]))
    | (refine condK_bne (fun h => ?_) (fun h => ?_) <;> (try simp (disch := first | omega | (simp only [LL]; omega)) [h, WW]))
    | (refine condK_not (fun h => ?_) (fun h => ?_) <;> (try simp (disch := first | omega | (simp only [LL]; omega)) [h, WW]))
    | (refine condK_split (fun h => ?_) (fun h => ?_) <;> (try simp (disch := first | omega | (simp only [LL]; omega)) [h, WW]))
  all_goals (simp [named, *])
theorem rnamed_spec (n : Nm) (st : St) : ASpec Try.prog 79 [.agg (nmC n)] st fun v st' => v = .bool (named n) ∧ st' = st := by
  refine pure_of (R := fun v => v = _) A1cs F79 rfl ?_
  simp (disch := first | omega | (simp only [LL]; omega)) [WW, c79]
  repeat' first
    | (refine region_static rfl (by decide +kernel) ?_; try simp (disch := first | omega | (simp only [LL]; omega)) [WW])
    | (refine And.intro (by omega) ?_; try simp (disch := first | omega | (simp only [LL]; omega)) [WW])
    | (refine guardK_ndec (fun h => ?_) (fun h => ?_) <;> (try simp (disch := first | omega | (simp only [LL]; omega)) [h, WW]))
    | (refine guardK_dec (fun h => ?_) (fun h => ?_) <;> (try simp (disch := first | omega | (simp only [LL]; omega)) [h, WW]))
    | (refine guardK_nbeq (fun h => ?_) (fun h => ?_) <;> (try simp (disch := first | omega | (simp only [LL]; omega)) [h, WW]))
    | (refine guardK_beq (fun h => ?_) (fun h => ?_) <;> (try simp (disch := first | omega | (simp only [LL]; omega)) [h, WW]))
    | (refine guardK_bne (fun h => ?_) (fun h => ?_) <;> (try simp (disch := first | omega | (simp only [LL]; omega)) [h, WW]))
    | (refine guardK_not (fun h => ?_) (fun h => ?_) <;> (try simp (disch := first | omega | (simp only [LL]; omega)) [h, WW]))
    | (refine guardK_split (fun h => ?_) (fun h => ?_) <;> (try simp (disch := first | omega | (simp only [LL]; omega)) [h, WW]))
    | (refine condK_ndec (fun h => ?_) (fun h => ?_) <;> (try simp (disch := first | omega | (simp only [LL]; omega)) [h, WW]))
    | (refine condK_dec (fun h => ?_) (fun h => ?_) <;> (try simp (disch := first | omega | (simp only [LL]; omega)) [h, WW]))
    | (refine condK_nbeq (fun h => ?_) (fun h => ?_) <;> (try simp (disch := first | omega | (simp only [LL]; omega)) [h, WW]))
    | (refine condK_beq (fun h => ?_) (fun h => ?_) <;> (try simp (disch := first | omega | (simp only [LL]; omega)) [h, WW]))
    | (refine condK_bne (fun h => ?_) (fun h => ?_) <;> (try simp (disch := first | omega | (simp only [LL]; omega)) [h, WW]))
    | (refine condK_not (fun h => ?_) (fun h => ?_) <;> (try simp (disch := first | omega | (simp only [LL]; omega)) [h, WW]))
    | (refine condK_split (fun h => ?_) (fun h => ?_) <;> (try simp (disch := first | omega | (simp only [LL]; omega)) [h, WW]))
  all_goals (simp [named, within_eq, *]; try omega)
theorem named_eq (n : Nm) : named n = (within n.stamp 1 1048576 && within n.inc 1 1048576 && within n.tr 1 1048576) := rfl
attribute [irreducible] named
noncomputable def A2 : Orc := A1c.add 118 (tab (fun x : Int × Int × Int => [.agg [.int .i64 x.1, .int .i64 x.2.1, .int .i64 x.2.2]]) (fun x => .bool (named ⟨x.1, x.2.1, x.2.2⟩)) fun x => True)
theorem A2s : OSound Try.prog A2 := A1cs.tab fun x h st => named_spec ⟨x.1, x.2.1, x.2.2⟩ st
@[simp] theorem A2_118 (a : Int) (b : Int) (c : Int) : A2 118 [.agg [.int .i64 a, .int .i64 b, .int .i64 c]] = some (.bool (named ⟨a, b, c⟩)) := by
  rw [A2, Orc.add_same]
  exact tab_eq (fun x y h => by simp at h; simp [h]) (x := (a, b, c)) trivial
@[simp] theorem A2_o (f : Nat) (args : List AV) (h : f ≠ 118) : A2 f args = A1c f args := by
  rw [A2, Orc.add_other _ _ _ _ _ h]
noncomputable def A3 : Orc := A2.add 79 (tab (fun x : Int × Int × Int => [.agg [.int .i64 x.1, .int .i64 x.2.1, .int .i64 x.2.2]]) (fun x => .bool (named ⟨x.1, x.2.1, x.2.2⟩)) fun x => True)
theorem A3s : OSound Try.prog A3 := A2s.tab fun x h st => rnamed_spec ⟨x.1, x.2.1, x.2.2⟩ st
@[simp] theorem A3_79 (a : Int) (b : Int) (c : Int) : A3 79 [.agg [.int .i64 a, .int .i64 b, .int .i64 c]] = some (.bool (named ⟨a, b, c⟩)) := by
  rw [A3, Orc.add_same]
  exact tab_eq (fun x y h => by simp at h; simp [h]) (x := (a, b, c)) trivial
@[simp] theorem A3_o (f : Nat) (args : List AV) (h : f ≠ 79) : A3 f args = A2 f args := by
  rw [A3, Orc.add_other _ _ _ _ _ h]

/-! Writes. -/
def asc (last : Int) : List Wr → Bool
  | [] => true
  | w :: l => decide (last < w.block ∧ w.block < 32) && asc w.block l
def written (l : List Wr) : Bool := asc (-1) l && decide (l.length ≤ 8)
theorem asc_drop {last : Int} {l : List Wr} {i : Nat} (h : i < l.length) : asc last (l.drop i) = (decide (last < l[i].block ∧ l[i].block < 32) && asc l[i].block (l.drop (i + 1))) := by
  rw [List.drop_eq_getElem_cons h, asc]
theorem written_spec (l : List Wr) (hl : l.length ≤ 1048576) (st : St) : ASpec Try.prog 126 [.sl .any (wrs l)] st fun v st' => v = .bool (written l) ∧ st' = st := by
  refine pure_of (R := fun v => v = _) A3s F126 rfl ?_
  simp (disch := first | omega | (simp only [LL]; omega)) [WW, c126]
  refine awC_loop (fun k env s => ∃ i last, k + i = l.length ∧ env 0 = .sl .any (wrs l) ∧ env 3 = .int .i64 last ∧ env 6 = .sl .any (wrs l) ∧ env 7 = .int .i64 l.length ∧ env 8 = .int .i64 i ∧ s = st ∧ asc (-1) l = asc last (l.drop i)) l.length ?_ ?_
  · exact ⟨0, -1, by simp⟩
  rintro k env s ⟨i, last, hk, e0, e3, e6, e7, e8, rfl, ha⟩
  by_cases hi : i < l.length
  · have hi' : (i : Int) < l.length := by omega
    rw [asc_drop hi] at ha
    simp (disch := first | omega | (simp only [LL]; omega)) [WW, e0, e3, e6, e7, e8, hi', hi]
    repeat' first
      | (refine region_static rfl (by decide +kernel) ?_; try simp (disch := first | omega | (simp only [LL]; omega)) [WW, e0, e3, e6, e7, e8, hi', hi])
      | (refine And.intro (by omega) ?_; try simp (disch := first | omega | (simp only [LL]; omega)) [WW, e0, e3, e6, e7, e8, hi', hi])
      | (refine guardK_ndec (fun h => ?_) (fun h => ?_) <;> (try simp (disch := first | omega | (simp only [LL]; omega)) [h, WW, e0, e3, e6, e7, e8, hi', hi]))
      | (refine guardK_dec (fun h => ?_) (fun h => ?_) <;> (try simp (disch := first | omega | (simp only [LL]; omega)) [h, WW, e0, e3, e6, e7, e8, hi', hi]))
      | (refine guardK_nbeq (fun h => ?_) (fun h => ?_) <;> (try simp (disch := first | omega | (simp only [LL]; omega)) [h, WW, e0, e3, e6, e7, e8, hi', hi]))
      | (refine guardK_beq (fun h => ?_) (fun h => ?_) <;> (try simp (disch := first | omega | (simp only [LL]; omega)) [h, WW, e0, e3, e6, e7, e8, hi', hi]))
      | (refine guardK_bne (fun h => ?_) (fun h => ?_) <;> (try simp (disch := first | omega | (simp only [LL]; omega)) [h, WW, e0, e3, e6, e7, e8, hi', hi]))
      | (refine guardK_not (fun h => ?_) (fun h => ?_) <;> (try simp (disch := first | omega | (simp only [LL]; omega)) [h, WW, e0, e3, e6, e7, e8, hi', hi]))
      | (refine guardK_split (fun h => ?_) (fun h => ?_) <;> (try simp (disch := first | omega | (simp only [LL]; omega)) [h, WW, e0, e3, e6, e7, e8, hi', hi]))
      | (refine condK_ndec (fun h => ?_) (fun h => ?_) <;> (try simp (disch := first | omega | (simp only [LL]; omega)) [h, WW, e0, e3, e6, e7, e8, hi', hi]))
      | (refine condK_dec (fun h => ?_) (fun h => ?_) <;> (try simp (disch := first | omega | (simp only [LL]; omega)) [h, WW, e0, e3, e6, e7, e8, hi', hi]))
      | (refine condK_nbeq (fun h => ?_) (fun h => ?_) <;> (try simp (disch := first | omega | (simp only [LL]; omega)) [h, WW, e0, e3, e6, e7, e8, hi', hi]))
      | (refine condK_beq (fun h => ?_) (fun h => ?_) <;> (try simp (disch := first | omega | (simp only [LL]; omega)) [h, WW, e0, e3, e6, e7, e8, hi', hi]))
      | (refine condK_bne (fun h => ?_) (fun h => ?_) <;> (try simp (disch := first | omega | (simp only [LL]; omega)) [h, WW, e0, e3, e6, e7, e8, hi', hi]))
      | (refine condK_not (fun h => ?_) (fun h => ?_) <;> (try simp (disch := first | omega | (simp only [LL]; omega)) [h, WW, e0, e3, e6, e7, e8, hi', hi]))
      | (refine condK_split (fun h => ?_) (fun h => ?_) <;> (try simp (disch := first | omega | (simp only [LL]; omega)) [h, WW, e0, e3, e6, e7, e8, hi', hi]))
    · simp [written, ha]; omega
    · simp [written, ha]; omega
    · refine ⟨k - 1, by omega, [0, 3, 6, 7, 8], _, .pop (by simp) (by simp) (by simp [e0, e6, e7]), i + 1, by omega, ?_⟩
      simp [e0, e6, e7]
      rw [ha, decide_eq_true (by omega), Bool.true_and]
  · have hi' : ¬ (i : Int) < l.length := by omega
    rw [List.drop_of_length_le (by omega)] at ha
    simp (disch := first | omega | (simp only [LL]; omega)) [WW, e0, e3, e6, e7, e8, hi']
    simp [written, ha, asc]
    omega
noncomputable def A9 : Orc := A3.add 126 (tab (fun x : List Wr => [.sl .any (wrs x)]) (fun x => .bool (written x)) fun x => x.length ≤ 1048576)
theorem A9s : OSound Try.prog A9 := A3s.tab fun x h st => written_spec x h st
@[simp] theorem A9_126 (l : List Wr) (h : l.length ≤ 1048576) : A9 126 [.sl .any (wrs l)] = some (.bool (written l)) := by
  rw [A9, Orc.add_same]
  exact tab_eq (fun x y h => by simp at h; simp [h]) (x := (l)) h
@[simp] theorem A9_o (f : Nat) (args : List AV) (h : f ≠ 126) : A9 f args = A3 f args := by
  rw [A9, Orc.add_other _ _ _ _ _ h]

theorem rwritten_spec (l : List Wr) (st : St) : ASpec Try.prog 81 [.sl .any (wrs l)] st fun v st' => v = .bool (written l) ∧ st' = st := by
  refine pure_of (R := fun v => v = _) A9s F81 rfl ?_
  by_cases h8 : 8 < l.length
  · have h8' : (8 : Int) < l.length := by omega
    simp (disch := first | omega | (simp only [LL]; omega)) [WW, c81, h8']
    simp [written]
    omega
  have h8' : ¬ (8 : Int) < l.length := by omega
  simp (disch := first | omega | (simp only [LL]; omega)) [WW, c81, h8']
  refine awC_loopW (fun k env s => ∃ i last, k + i = l.length ∧ env 0 = .sl .any (wrs l) ∧ env 3 = .int .i64 i ∧ s = st ∧ asc (-1) l = asc last (l.drop i) ∧ -1 ≤ last ∧ (i = 0 → last = -1) ∧ (0 < i → ∀ (h : i - 1 < l.length), l[i - 1].block = last)) l.length ?_ ?_
  · exact ⟨0, -1, by simp⟩
  rintro k env s ⟨i, last, hk, e0, e3, rfl, ha, hm, hz, hp⟩
  by_cases hi : i < l.length
  · have hi' : (i : Int) < l.length := by omega
    rw [asc_drop hi] at ha
    by_cases h0 : i = 0
    · subst h0
      have hz' := hz rfl
      simp (disch := first | omega | (simp only [LL]; omega)) [WW, e0, e3, hi', hi]
      repeat' first
        | (refine region_static rfl (by decide +kernel) ?_; try simp (disch := first | omega | (simp only [LL]; omega)) [WW, e0, e3, hi', hi])
        | (refine And.intro (by omega) ?_; try simp (disch := first | omega | (simp only [LL]; omega)) [WW, e0, e3, hi', hi])
        | (refine guardK_ndec (fun h => ?_) (fun h => ?_) <;> (try simp (disch := first | omega | (simp only [LL]; omega)) [h, WW, e0, e3, hi', hi]))
        | (refine guardK_dec (fun h => ?_) (fun h => ?_) <;> (try simp (disch := first | omega | (simp only [LL]; omega)) [h, WW, e0, e3, hi', hi]))
        | (refine guardK_nbeq (fun h => ?_) (fun h => ?_) <;> (try simp (disch := first | omega | (simp only [LL]; omega)) [h, WW, e0, e3, hi', hi]))
        | (refine guardK_beq (fun h => ?_) (fun h => ?_) <;> (try simp (disch := first | omega | (simp only [LL]; omega)) [h, WW, e0, e3, hi', hi]))
        | (refine guardK_bne (fun h => ?_) (fun h => ?_) <;> (try simp (disch := first | omega | (simp only [LL]; omega)) [h, WW, e0, e3, hi', hi]))
        | (refine guardK_not (fun h => ?_) (fun h => ?_) <;> (try simp (disch := first | omega | (simp only [LL]; omega)) [h, WW, e0, e3, hi', hi]))
        | (refine guardK_split (fun h => ?_) (fun h => ?_) <;> (try simp (disch := first | omega | (simp only [LL]; omega)) [h, WW, e0, e3, hi', hi]))
        | (refine condK_ndec (fun h => ?_) (fun h => ?_) <;> (try simp (disch := first | omega | (simp only [LL]; omega)) [h, WW, e0, e3, hi', hi]))
        | (refine condK_dec (fun h => ?_) (fun h => ?_) <;> (try simp (disch := first | omega | (simp only [LL]; omega)) [h, WW, e0, e3, hi', hi]))
        | (refine condK_nbeq (fun h => ?_) (fun h => ?_) <;> (try simp (disch := first | omega | (simp only [LL]; omega)) [h, WW, e0, e3, hi', hi]))
        | (refine condK_beq (fun h => ?_) (fun h => ?_) <;> (try simp (disch := first | omega | (simp only [LL]; omega)) [h, WW, e0, e3, hi', hi]))
        | (refine condK_bne (fun h => ?_) (fun h => ?_) <;> (try simp (disch := first | omega | (simp only [LL]; omega)) [h, WW, e0, e3, hi', hi]))
        | (refine condK_not (fun h => ?_) (fun h => ?_) <;> (try simp (disch := first | omega | (simp only [LL]; omega)) [h, WW, e0, e3, hi', hi]))
        | (refine condK_split (fun h => ?_) (fun h => ?_) <;> (try simp (disch := first | omega | (simp only [LL]; omega)) [h, WW, e0, e3, hi', hi]))
      · simp [written, ha]; omega
      · simp [written, ha]; omega
      · refine ⟨k - 1, by omega, 1, by omega, by simp, l[0].block, ?_, by omega, by omega, fun _ => by simp⟩
        rw [ha, decide_eq_true (by omega), Bool.true_and]
    · have hb := hp (by omega) (by omega)
      have h0' : 0 < (i : Int) := by omega
      have hti : ((i : Int) - 1).toNat = i - 1 := by omega
      have h1 : 1 ≤ (i : Int) := by omega
      have hlt : i - 1 < l.length := by omega
      have h0n : 0 < i := by omega
      clear hp hz
      simp (disch := first | omega | (simp only [LL]; omega)) [WW, e0, e3, hi', hi, h0', hti, h1, hlt, h0n]
      repeat' first
        | (refine region_static rfl (by decide +kernel) ?_; try simp (disch := first | omega | (simp only [LL]; omega)) [WW, e0, e3, hi', hi, h0', hti, hb, h1, hlt, h0n])
        | (refine And.intro (by omega) ?_; try simp (disch := first | omega | (simp only [LL]; omega)) [WW, e0, e3, hi', hi, h0', hti, hb, h1, hlt, h0n])
        | (refine guardK_ndec (fun h => ?_) (fun h => ?_) <;> (try simp (disch := first | omega | (simp only [LL]; omega)) [h, WW, e0, e3, hi', hi, h0', hti, hb, h1, hlt, h0n]))
        | (refine guardK_dec (fun h => ?_) (fun h => ?_) <;> (try simp (disch := first | omega | (simp only [LL]; omega)) [h, WW, e0, e3, hi', hi, h0', hti, hb, h1, hlt, h0n]))
        | (refine guardK_nbeq (fun h => ?_) (fun h => ?_) <;> (try simp (disch := first | omega | (simp only [LL]; omega)) [h, WW, e0, e3, hi', hi, h0', hti, hb, h1, hlt, h0n]))
        | (refine guardK_beq (fun h => ?_) (fun h => ?_) <;> (try simp (disch := first | omega | (simp only [LL]; omega)) [h, WW, e0, e3, hi', hi, h0', hti, hb, h1, hlt, h0n]))
        | (refine guardK_bne (fun h => ?_) (fun h => ?_) <;> (try simp (disch := first | omega | (simp only [LL]; omega)) [h, WW, e0, e3, hi', hi, h0', hti, hb, h1, hlt, h0n]))
        | (refine guardK_not (fun h => ?_) (fun h => ?_) <;> (try simp (disch := first | omega | (simp only [LL]; omega)) [h, WW, e0, e3, hi', hi, h0', hti, hb, h1, hlt, h0n]))
        | (refine guardK_split (fun h => ?_) (fun h => ?_) <;> (try simp (disch := first | omega | (simp only [LL]; omega)) [h, WW, e0, e3, hi', hi, h0', hti, hb, h1, hlt, h0n]))
        | (refine condK_ndec (fun h => ?_) (fun h => ?_) <;> (try simp (disch := first | omega | (simp only [LL]; omega)) [h, WW, e0, e3, hi', hi, h0', hti, hb, h1, hlt, h0n]))
        | (refine condK_dec (fun h => ?_) (fun h => ?_) <;> (try simp (disch := first | omega | (simp only [LL]; omega)) [h, WW, e0, e3, hi', hi, h0', hti, hb, h1, hlt, h0n]))
        | (refine condK_nbeq (fun h => ?_) (fun h => ?_) <;> (try simp (disch := first | omega | (simp only [LL]; omega)) [h, WW, e0, e3, hi', hi, h0', hti, hb, h1, hlt, h0n]))
        | (refine condK_beq (fun h => ?_) (fun h => ?_) <;> (try simp (disch := first | omega | (simp only [LL]; omega)) [h, WW, e0, e3, hi', hi, h0', hti, hb, h1, hlt, h0n]))
        | (refine condK_bne (fun h => ?_) (fun h => ?_) <;> (try simp (disch := first | omega | (simp only [LL]; omega)) [h, WW, e0, e3, hi', hi, h0', hti, hb, h1, hlt, h0n]))
        | (refine condK_not (fun h => ?_) (fun h => ?_) <;> (try simp (disch := first | omega | (simp only [LL]; omega)) [h, WW, e0, e3, hi', hi, h0', hti, hb, h1, hlt, h0n]))
        | (refine condK_split (fun h => ?_) (fun h => ?_) <;> (try simp (disch := first | omega | (simp only [LL]; omega)) [h, WW, e0, e3, hi', hi, h0', hti, hb, h1, hlt, h0n]))
      · simp [written, ha]; omega
      · simp [written, ha]; omega
      · simp [written, ha]; omega
      · refine ⟨k - 1, by omega, i + 1, by omega, by simp, l[i].block, ?_, by omega, by omega, fun _ => by simp⟩
        rw [ha, decide_eq_true (by omega), Bool.true_and]
  · have hi' : ¬ (i : Int) < l.length := by omega
    rw [List.drop_of_length_le (by omega)] at ha
    simp (disch := first | omega | (simp only [LL]; omega)) [WW, e0, e3, hi']
    simp [written, ha, asc]
    omega
attribute [irreducible] written
noncomputable def A10 : Orc := A9.add 81 (tab (fun x : List Wr => [.sl .any (wrs x)]) (fun x => .bool (written x)) fun x => True)
theorem A10s : OSound Try.prog A10 := A9s.tab fun x h st => rwritten_spec x st
@[simp] theorem A10_81 (l : List Wr) : A10 81 [.sl .any (wrs l)] = some (.bool (written l)) := by
  rw [A10, Orc.add_same]
  exact tab_eq (fun x y h => by simp at h; simp [h]) (x := (l)) trivial
@[simp] theorem A10_o (f : Nat) (args : List AV) (h : f ≠ 81) : A10 f args = A9 f args := by
  rw [A10, Orc.add_other _ _ _ _ _ h]

@[simp] theorem nm_eta (n : Nm) : Nm.mk n.stamp n.inc n.tr = n := rfl
@[simp] theorem wr_eta (w : Wr) : Wr.mk w.block w.v0 w.v1 w.v2 w.v3 w.v4 w.v5 w.v6 w.v7 = w := rfl
theorem eq9 (b b' : Int) (v0 v1 v2 v3 v4 v5 v6 v7 u0 u1 u2 u3 u4 u5 u6 u7 : UInt8) : eqKind (.flat [0, 0, 0, 0, 0, 0, 0, 0, 0]) (.agg [.int .i64 b, u8 v0, u8 v1, u8 v2, u8 v3, u8 v4, u8 v5, u8 v6, u8 v7]) (.agg [.int .i64 b', u8 u0, u8 u1, u8 u2, u8 u3, u8 u4, u8 u5, u8 u6, u8 u7]) = some (decide (Wr.mk b v0 v1 v2 v3 v4 v5 v6 v7 = Wr.mk b' u0 u1 u2 u3 u4 u5 u6 u7)) := by
  simp only [eqKind, eqCells, eqCell_int, eqCell_u8, List.length_cons, List.length_nil, and_self, if_true, Option.bind_some, beq_iff_eq, ite_some_false, ite_self]
  simp [Bool.decide_and]
@[simp high] theorem neq9 (b b' : Int) (v0 v1 v2 v3 v4 v5 v6 v7 u0 u1 u2 u3 u4 u5 u6 u7 : UInt8) : binA .neq (.flat [0, 0, 0, 0, 0, 0, 0, 0, 0]) (.agg [.int .i64 b, u8 v0, u8 v1, u8 v2, u8 v3, u8 v4, u8 v5, u8 v6, u8 v7]) (.agg [.int .i64 b', u8 u0, u8 u1, u8 u2, u8 u3, u8 u4, u8 u5, u8 u6, u8 u7]) = some (.bool (!decide (Wr.mk b v0 v1 v2 v3 v4 v5 v6 v7 = Wr.mk b' u0 u1 u2 u3 u4 u5 u6 u7))) := by
  rw [binA_neqF, eq9]
  rfl
theorem take_ext {l1 l2 : List Wr} {i : Nat} (h : l1.take i = l2.take i) (h1 : i < l1.length) (h2 : i < l2.length) (he : l1[i] = l2[i]) : l1.take (i + 1) = l2.take (i + 1) := by
  rw [List.take_succ_eq_append_getElem h1, List.take_succ_eq_append_getElem h2, h, he]
theorem equal_spec (a b : List Wr) (hl : a.length ≤ 1048576) (st : St) : ASpec Try.prog 84 [.sl .any (wrs a), .sl .any (wrs b)] st fun v st' => v = .bool (decide (a = b)) ∧ st' = st := by
  refine pure_of (R := fun v => v = _) A10s F84 rfl ?_
  by_cases hl : a.length = b.length
  case neg =>
    have hl' : ¬ (a.length : Int) = b.length := by omega
    simp (disch := first | omega | (simp only [LL]; omega)) [WW, c84, hl']
    exact fun h => hl (by rw [h])
  simp (disch := first | omega | (simp only [LL]; omega)) [WW, c84, hl]
  refine awC_loopW (fun k env s => ∃ i, k + i = a.length ∧ env 0 = .sl .any (wrs a) ∧ env 1 = .sl .any (wrs b) ∧ env 12 = .int .i64 a.length ∧ env 13 = .int .i64 i ∧ s = st ∧ a.take i = b.take i) a.length ?_ ?_
  · exact ⟨0, by simp [hl]⟩
  rintro k env s ⟨i, hk, e0, e1, e12, e13, rfl, ht⟩
  by_cases hi : i < a.length
  · have hi' : (i : Int) < a.length := by omega
    have hib : i < b.length := by omega
    simp (disch := first | omega | (simp only [LL]; omega)) [WW, e0, e1, e12, e13, hi', hi, hib]
    repeat' first
      | (refine region_static rfl (by decide +kernel) ?_; try simp (disch := first | omega | (simp only [LL]; omega)) [WW, e0, e1, e12, e13, hi', hi, hib])
      | (refine And.intro (by omega) ?_; try simp (disch := first | omega | (simp only [LL]; omega)) [WW, e0, e1, e12, e13, hi', hi, hib])
      | (refine guardK_ndec (fun h => ?_) (fun h => ?_) <;> (try simp (disch := first | omega | (simp only [LL]; omega)) [h, WW, e0, e1, e12, e13, hi', hi, hib]))
      | (refine guardK_dec (fun h => ?_) (fun h => ?_) <;> (try simp (disch := first | omega | (simp only [LL]; omega)) [h, WW, e0, e1, e12, e13, hi', hi, hib]))
      | (refine guardK_nbeq (fun h => ?_) (fun h => ?_) <;> (try simp (disch := first | omega | (simp only [LL]; omega)) [h, WW, e0, e1, e12, e13, hi', hi, hib]))
      | (refine guardK_beq (fun h => ?_) (fun h => ?_) <;> (try simp (disch := first | omega | (simp only [LL]; omega)) [h, WW, e0, e1, e12, e13, hi', hi, hib]))
      | (refine guardK_bne (fun h => ?_) (fun h => ?_) <;> (try simp (disch := first | omega | (simp only [LL]; omega)) [h, WW, e0, e1, e12, e13, hi', hi, hib]))
      | (refine guardK_not (fun h => ?_) (fun h => ?_) <;> (try simp (disch := first | omega | (simp only [LL]; omega)) [h, WW, e0, e1, e12, e13, hi', hi, hib]))
      | (refine guardK_split (fun h => ?_) (fun h => ?_) <;> (try simp (disch := first | omega | (simp only [LL]; omega)) [h, WW, e0, e1, e12, e13, hi', hi, hib]))
      | (refine condK_ndec (fun h => ?_) (fun h => ?_) <;> (try simp (disch := first | omega | (simp only [LL]; omega)) [h, WW, e0, e1, e12, e13, hi', hi, hib]))
      | (refine condK_dec (fun h => ?_) (fun h => ?_) <;> (try simp (disch := first | omega | (simp only [LL]; omega)) [h, WW, e0, e1, e12, e13, hi', hi, hib]))
      | (refine condK_nbeq (fun h => ?_) (fun h => ?_) <;> (try simp (disch := first | omega | (simp only [LL]; omega)) [h, WW, e0, e1, e12, e13, hi', hi, hib]))
      | (refine condK_beq (fun h => ?_) (fun h => ?_) <;> (try simp (disch := first | omega | (simp only [LL]; omega)) [h, WW, e0, e1, e12, e13, hi', hi, hib]))
      | (refine condK_bne (fun h => ?_) (fun h => ?_) <;> (try simp (disch := first | omega | (simp only [LL]; omega)) [h, WW, e0, e1, e12, e13, hi', hi, hib]))
      | (refine condK_not (fun h => ?_) (fun h => ?_) <;> (try simp (disch := first | omega | (simp only [LL]; omega)) [h, WW, e0, e1, e12, e13, hi', hi, hib]))
      | (refine condK_split (fun h => ?_) (fun h => ?_) <;> (try simp (disch := first | omega | (simp only [LL]; omega)) [h, WW, e0, e1, e12, e13, hi', hi, hib]))
    · exact ⟨k - 1, by omega, i + 1, by omega, by simp, take_ext ht hi hib (by assumption)⟩
    · intro hab
      subst hab
      exact absurd rfl (by assumption)
  · have hi' : ¬ (i : Int) < a.length := by omega
    have hib : ¬ i < b.length := by omega
    rw [List.take_of_length_le (by omega), List.take_of_length_le (by omega)] at ht
    clear hl
    simp (disch := first | omega | (simp only [LL]; omega)) [WW, e0, e1, e12, e13, hi', hib]
    exact ht
noncomputable def A11 : Orc := A10.add 84 (tab (fun x : List Wr × List Wr => [.sl .any (wrs x.1), .sl .any (wrs x.2)]) (fun x => .bool (decide (x.1 = x.2))) fun x => x.1.length ≤ 1048576)
theorem A11s : OSound Try.prog A11 := A10s.tab fun x h st => equal_spec x.1 x.2 h st
@[simp] theorem A11_84 (a : List Wr) (b : List Wr) (h : a.length ≤ 1048576) : A11 84 [.sl .any (wrs a), .sl .any (wrs b)] = some (.bool (decide (a = b))) := by
  rw [A11, Orc.add_same]
  exact tab_eq (fun x y h => by simp at h; simp [h]) (x := (a, b)) h
@[simp] theorem A11_o (f : Nat) (args : List AV) (h : f ≠ 84) : A11 f args = A10 f args := by
  rw [A11, Orc.add_other _ _ _ _ _ h]

theorem rsamew_spec (a b : List Wr) (hl : a.length ≤ 1048576) (st : St) : ASpec Try.prog 98 [.sl .any (wrs a), .sl .any (wrs b)] st fun v st' => v = .bool (decide (a = b)) ∧ st' = st := by
  refine pure_of (R := fun v => v = _) A11s F98 rfl ?_
  by_cases hl : a.length = b.length
  case neg =>
    have hl' : ¬ (a.length : Int) = b.length := by omega
    simp (disch := first | omega | (simp only [LL]; omega)) [WW, c98, hl']
    exact fun h => hl (by rw [h])
  simp (disch := first | omega | (simp only [LL]; omega)) [WW, c98, hl]
  refine awC_loopW (fun k env s => ∃ i, k + i = a.length ∧ env 0 = .sl .any (wrs a) ∧ env 1 = .sl .any (wrs b) ∧ env 5 = .int .i64 i ∧ s = st ∧ a.take i = b.take i) a.length ?_ ?_
  · exact ⟨0, by simp⟩
  rintro k env s ⟨i, hk, e0, e1, e5, rfl, ht⟩
  by_cases hi : i < a.length
  · have hi' : (i : Int) < a.length := by omega
    have hib : i < b.length := by omega
    simp (disch := first | omega | (simp only [LL]; omega)) [WW, e0, e1, e5, hi', hi, hib]
    repeat' first
      | (refine region_static rfl (by decide +kernel) ?_; try simp (disch := first | omega | (simp only [LL]; omega)) [WW, e0, e1, e5, hi', hi, hib])
      | (refine And.intro (by omega) ?_; try simp (disch := first | omega | (simp only [LL]; omega)) [WW, e0, e1, e5, hi', hi, hib])
      | (refine guardK_ndec (fun h => ?_) (fun h => ?_) <;> (try simp (disch := first | omega | (simp only [LL]; omega)) [h, WW, e0, e1, e5, hi', hi, hib]))
      | (refine guardK_dec (fun h => ?_) (fun h => ?_) <;> (try simp (disch := first | omega | (simp only [LL]; omega)) [h, WW, e0, e1, e5, hi', hi, hib]))
      | (refine guardK_nbeq (fun h => ?_) (fun h => ?_) <;> (try simp (disch := first | omega | (simp only [LL]; omega)) [h, WW, e0, e1, e5, hi', hi, hib]))
      | (refine guardK_beq (fun h => ?_) (fun h => ?_) <;> (try simp (disch := first | omega | (simp only [LL]; omega)) [h, WW, e0, e1, e5, hi', hi, hib]))
      | (refine guardK_bne (fun h => ?_) (fun h => ?_) <;> (try simp (disch := first | omega | (simp only [LL]; omega)) [h, WW, e0, e1, e5, hi', hi, hib]))
      | (refine guardK_not (fun h => ?_) (fun h => ?_) <;> (try simp (disch := first | omega | (simp only [LL]; omega)) [h, WW, e0, e1, e5, hi', hi, hib]))
      | (refine guardK_split (fun h => ?_) (fun h => ?_) <;> (try simp (disch := first | omega | (simp only [LL]; omega)) [h, WW, e0, e1, e5, hi', hi, hib]))
      | (refine condK_ndec (fun h => ?_) (fun h => ?_) <;> (try simp (disch := first | omega | (simp only [LL]; omega)) [h, WW, e0, e1, e5, hi', hi, hib]))
      | (refine condK_dec (fun h => ?_) (fun h => ?_) <;> (try simp (disch := first | omega | (simp only [LL]; omega)) [h, WW, e0, e1, e5, hi', hi, hib]))
      | (refine condK_nbeq (fun h => ?_) (fun h => ?_) <;> (try simp (disch := first | omega | (simp only [LL]; omega)) [h, WW, e0, e1, e5, hi', hi, hib]))
      | (refine condK_beq (fun h => ?_) (fun h => ?_) <;> (try simp (disch := first | omega | (simp only [LL]; omega)) [h, WW, e0, e1, e5, hi', hi, hib]))
      | (refine condK_bne (fun h => ?_) (fun h => ?_) <;> (try simp (disch := first | omega | (simp only [LL]; omega)) [h, WW, e0, e1, e5, hi', hi, hib]))
      | (refine condK_not (fun h => ?_) (fun h => ?_) <;> (try simp (disch := first | omega | (simp only [LL]; omega)) [h, WW, e0, e1, e5, hi', hi, hib]))
      | (refine condK_split (fun h => ?_) (fun h => ?_) <;> (try simp (disch := first | omega | (simp only [LL]; omega)) [h, WW, e0, e1, e5, hi', hi, hib]))
    · exact ⟨k - 1, by omega, i + 1, by omega, by simp, take_ext ht hi hib (by assumption)⟩
    · intro hab
      subst hab
      exact absurd rfl (by assumption)
  · have hi' : ¬ (i : Int) < a.length := by omega
    have hib : ¬ i < b.length := by omega
    rw [List.take_of_length_le (by omega), List.take_of_length_le (by omega)] at ht
    clear hl
    simp (disch := first | omega | (simp only [LL]; omega)) [WW, e0, e1, e5, hi', hi, hib]
    exact ht
noncomputable def A12 : Orc := A11.add 98 (tab (fun x : List Wr × List Wr => [.sl .any (wrs x.1), .sl .any (wrs x.2)]) (fun x => .bool (decide (x.1 = x.2))) fun x => x.1.length ≤ 1048576)
theorem A12s : OSound Try.prog A12 := A11s.tab fun x h st => rsamew_spec x.1 x.2 h st
@[simp] theorem A12_98 (a : List Wr) (b : List Wr) (h : a.length ≤ 1048576) : A12 98 [.sl .any (wrs a), .sl .any (wrs b)] = some (.bool (decide (a = b))) := by
  rw [A12, Orc.add_same]
  exact tab_eq (fun x y h => by simp at h; simp [h]) (x := (a, b)) h
@[simp] theorem A12_o (f : Nat) (args : List AV) (h : f ≠ 98) : A12 f args = A11 f args := by
  rw [A12, Orc.add_other _ _ _ _ _ h]

def andI (a b : Int) : Int := IntKind.i64.wrap ((BitVec.ofInt 64 a &&& BitVec.ofInt 64 b).toNat : Nat)
@[simp high] theorem and_andI (e : EqK) (a b : Int) : binA .and e (.int .i64 a) (.int .i64 b) = some (.int .i64 (andI a b)) := rfl
def given (g t : Int) : Bool := decide (0 ≤ g ∧ g ≤ 255 ∧ 0 ≤ t ∧ t ≤ 255 ∧ andI g t = 0)
theorem given_spec (g t : Int) (st : St) : ASpec Try.prog 80 [.int .i64 g, .int .i64 t] st fun v st' => v = .bool (given g t) ∧ st' = st := by
  refine pure_of (R := fun v => v = _) A12s F80 rfl ?_
  simp (disch := first | omega | (simp only [LL]; omega)) [WW, c80]
  repeat' first
    | (refine region_static rfl (by decide +kernel) ?_; try simp (disch := first | omega | (simp only [LL]; omega)) [WW])
    | (refine And.intro (by omega) ?_; try simp (disch := first | omega | (simp only [LL]; omega)) [WW])
    | (refine guardK_ndec (fun h => ?_) (fun h => ?_) <;> (try simp (disch := first | omega | (simp only [LL]; omega)) [h, WW]))
    | (refine guardK_dec (fun h => ?_) (fun h => ?_) <;> (try simp (disch := first | omega | (simp only [LL]; omega)) [h, WW]))
    | (refine guardK_nbeq (fun h => ?_) (fun h => ?_) <;> (try simp (disch := first | omega | (simp only [LL]; omega)) [h, WW]))
    | (refine guardK_beq (fun h => ?_) (fun h => ?_) <;> (try simp (disch := first | omega | (simp only [LL]; omega)) [h, WW]))
    | (refine guardK_bne (fun h => ?_) (fun h => ?_) <;> (try simp (disch := first | omega | (simp only [LL]; omega)) [h, WW]))
    | (refine guardK_not (fun h => ?_) (fun h => ?_) <;> (try simp (disch := first | omega | (simp only [LL]; omega)) [h, WW]))
    | (refine guardK_split (fun h => ?_) (fun h => ?_) <;> (try simp (disch := first | omega | (simp only [LL]; omega)) [h, WW]))
    | (refine condK_ndec (fun h => ?_) (fun h => ?_) <;> (try simp (disch := first | omega | (simp only [LL]; omega)) [h, WW]))
    | (refine condK_dec (fun h => ?_) (fun h => ?_) <;> (try simp (disch := first | omega | (simp only [LL]; omega)) [h, WW]))
    | (refine condK_nbeq (fun h => ?_) (fun h => ?_) <;> (try simp (disch := first | omega | (simp only [LL]; omega)) [h, WW]))
    | (refine condK_beq (fun h => ?_) (fun h => ?_) <;> (try simp (disch := first | omega | (simp only [LL]; omega)) [h, WW]))
    | (refine condK_bne (fun h => ?_) (fun h => ?_) <;> (try simp (disch := first | omega | (simp only [LL]; omega)) [h, WW]))
    | (refine condK_not (fun h => ?_) (fun h => ?_) <;> (try simp (disch := first | omega | (simp only [LL]; omega)) [h, WW]))
    | (refine condK_split (fun h => ?_) (fun h => ?_) <;> (try simp (disch := first | omega | (simp only [LL]; omega)) [h, WW]))
  all_goals (simp [given, *]; try omega)
noncomputable def A13 : Orc := A12.add 80 (tab (fun x : Int × Int => [.int .i64 x.1, .int .i64 x.2]) (fun x => .bool (given x.1 x.2)) fun x => True)
theorem A13s : OSound Try.prog A13 := A12s.tab fun x h st => given_spec x.1 x.2 st
@[simp] theorem A13_80 (g : Int) (t : Int) : A13 80 [.int .i64 g, .int .i64 t] = some (.bool (given g t)) := by
  rw [A13, Orc.add_same]
  exact tab_eq (fun x y h => by simp at h; simp [h]) (x := (g, t)) trivial
@[simp] theorem A13_o (f : Nat) (args : List AV) (h : f ≠ 80) : A13 f args = A12 f args := by
  rw [A13, Orc.add_other _ _ _ _ _ h]
attribute [irreducible] given

structure Vl where
  v0 : UInt8
  v1 : UInt8
  v2 : UInt8
  v3 : UInt8
  v4 : UInt8
  v5 : UInt8
  v6 : UInt8
  v7 : UInt8
  deriving DecidableEq
@[simp] def vlC (v : Vl) : List AV := [u8 v.v0, u8 v.v1, u8 v.v2, u8 v.v3, u8 v.v4, u8 v.v5, u8 v.v6, u8 v.v7]
structure Ms where
  kind : Int
  fr : Int
  to : Int
  inc : Int
  your : Int
  nm : Nm
  n : Int
  op : Int
  block : Int
  val : Vl
  e : Int
  yes : Bool
  give : Int
  take : Int
  ws : List Wr
  deriving DecidableEq
@[simp] def msC (m : Ms) : List AV := [.int .i8 m.kind, .int .i64 m.fr, .int .i64 m.to, .int .i64 m.inc, .int .i64 m.your, .int .i64 m.nm.stamp, .int .i64 m.nm.inc, .int .i64 m.nm.tr, .int .i64 m.n, .int .i8 m.op, .int .i64 m.block, u8 m.val.v0, u8 m.val.v1, u8 m.val.v2, u8 m.val.v3, u8 m.val.v4, u8 m.val.v5, u8 m.val.v6, u8 m.val.v7, .int .i64 m.e, .bool m.yes, .int .i64 m.give, .int .i64 m.take, .sl .any (wrs m.ws)]
@[simp] theorem vl_eta (v : Vl) : Vl.mk v.v0 v.v1 v.v2 v.v3 v.v4 v.v5 v.v6 v.v7 = v := rfl
@[simp] theorem ms_eta (m : Ms) : Ms.mk m.kind m.fr m.to m.inc m.your m.nm m.n m.op m.block m.val m.e m.yes m.give m.take m.ws = m := rfl
theorem ms_eq (a b : Ms) : a = b ↔ a.kind = b.kind ∧ a.fr = b.fr ∧ a.to = b.to ∧ a.inc = b.inc ∧ a.your = b.your ∧ (a.nm.stamp = b.nm.stamp ∧ a.nm.inc = b.nm.inc ∧ a.nm.tr = b.nm.tr) ∧ a.n = b.n ∧ a.op = b.op ∧ a.block = b.block ∧ a.val = b.val ∧ a.e = b.e ∧ a.yes = b.yes ∧ a.give = b.give ∧ a.take = b.take ∧ a.ws = b.ws := by
  cases a with
  | mk a1 a2 a3 a4 a5 a6 a7 a8 a9 a10 a11 a12 a13 a14 a15 =>
  cases b with
  | mk b1 b2 b3 b4 b5 b6 b7 b8 b9 b10 b11 b12 b13 b14 b15 =>
  cases a6; cases b6
  simp [and_assoc]
theorem eq8 (v0 v1 v2 v3 v4 v5 v6 v7 u0 u1 u2 u3 u4 u5 u6 u7 : UInt8) : eqKind (.flat [0, 0, 0, 0, 0, 0, 0, 0]) (.agg [u8 v0, u8 v1, u8 v2, u8 v3, u8 v4, u8 v5, u8 v6, u8 v7]) (.agg [u8 u0, u8 u1, u8 u2, u8 u3, u8 u4, u8 u5, u8 u6, u8 u7]) = some (decide (Vl.mk v0 v1 v2 v3 v4 v5 v6 v7 = Vl.mk u0 u1 u2 u3 u4 u5 u6 u7)) := by
  simp only [eqKind, eqCells, eqCell_u8, List.length_cons, List.length_nil, and_self, if_true, Option.bind_some, beq_iff_eq, ite_some_false, ite_self]
  simp [Bool.decide_and]
@[simp high] theorem eql8 (v0 v1 v2 v3 v4 v5 v6 v7 u0 u1 u2 u3 u4 u5 u6 u7 : UInt8) : binA .eql (.flat [0, 0, 0, 0, 0, 0, 0, 0]) (.agg [u8 v0, u8 v1, u8 v2, u8 v3, u8 v4, u8 v5, u8 v6, u8 v7]) (.agg [u8 u0, u8 u1, u8 u2, u8 u3, u8 u4, u8 u5, u8 u6, u8 u7]) = some (.bool (decide (Vl.mk v0 v1 v2 v3 v4 v5 v6 v7 = Vl.mk u0 u1 u2 u3 u4 u5 u6 u7))) := by
  rw [binA_eqlF, eq8]
  rfl
@[simp high] theorem eql8z (v0 v1 v2 v3 v4 v5 v6 v7 : UInt8) : binA .eql (.flat [0, 0, 0, 0, 0, 0, 0, 0]) (.agg [u8 v0, u8 v1, u8 v2, u8 v3, u8 v4, u8 v5, u8 v6, u8 v7]) (.agg [.int .u8 0, .int .u8 0, .int .u8 0, .int .u8 0, .int .u8 0, .int .u8 0, .int .u8 0, .int .u8 0]) = some (.bool (decide (Vl.mk v0 v1 v2 v3 v4 v5 v6 v7 = Vl.mk 0 0 0 0 0 0 0 0))) := eql8 v0 v1 v2 v3 v4 v5 v6 v7 0 0 0 0 0 0 0 0
set_option maxRecDepth 20000 in
theorem same_spec (a b : Ms) (hl : a.ws.length ≤ 1048576) (st : St) : ASpec Try.prog 123 [.agg (msC a), .agg (msC b)] st fun v st' => v = .bool (decide (a = b)) ∧ st' = st := by
  refine pure_of (R := fun v => v = _) A13s F123 rfl ?_
  simp (disch := first | omega | (simp only [LL]; omega)) [WW, c123]
  repeat' first
    | (refine region_static rfl (by decide +kernel) ?_; try simp (disch := first | omega | (simp only [LL]; omega)) [WW])
    | (refine And.intro (by omega) ?_; try simp (disch := first | omega | (simp only [LL]; omega)) [WW])
    | (refine guardK_ndec (fun h => ?_) (fun h => ?_) <;> (try simp (disch := first | omega | (simp only [LL]; omega)) [h, WW]))
    | (refine guardK_dec (fun h => ?_) (fun h => ?_) <;> (try simp (disch := first | omega | (simp only [LL]; omega)) [h, WW]))
    | (refine guardK_nbeq (fun h => ?_) (fun h => ?_) <;> (try simp (disch := first | omega | (simp only [LL]; omega)) [h, WW]))
    | (refine guardK_beq (fun h => ?_) (fun h => ?_) <;> (try simp (disch := first | omega | (simp only [LL]; omega)) [h, WW]))
    | (refine guardK_bne (fun h => ?_) (fun h => ?_) <;> (try simp (disch := first | omega | (simp only [LL]; omega)) [h, WW]))
    | (refine guardK_not (fun h => ?_) (fun h => ?_) <;> (try simp (disch := first | omega | (simp only [LL]; omega)) [h, WW]))
    | (refine guardK_split (fun h => ?_) (fun h => ?_) <;> (try simp (disch := first | omega | (simp only [LL]; omega)) [h, WW]))
    | (refine condK_ndec (fun h => ?_) (fun h => ?_) <;> (try simp (disch := first | omega | (simp only [LL]; omega)) [h, WW]))
    | (refine condK_dec (fun h => ?_) (fun h => ?_) <;> (try simp (disch := first | omega | (simp only [LL]; omega)) [h, WW]))
    | (refine condK_nbeq (fun h => ?_) (fun h => ?_) <;> (try simp (disch := first | omega | (simp only [LL]; omega)) [h, WW]))
    | (refine condK_beq (fun h => ?_) (fun h => ?_) <;> (try simp (disch := first | omega | (simp only [LL]; omega)) [h, WW]))
    | (refine condK_bne (fun h => ?_) (fun h => ?_) <;> (try simp (disch := first | omega | (simp only [LL]; omega)) [h, WW]))
    | (refine condK_not (fun h => ?_) (fun h => ?_) <;> (try simp (disch := first | omega | (simp only [LL]; omega)) [h, WW]))
    | (refine condK_split (fun h => ?_) (fun h => ?_) <;> (try simp (disch := first | omega | (simp only [LL]; omega)) [h, WW]))
  all_goals first
    | contradiction
    | (simp only [ms_eq]; simp_all)
set_option maxRecDepth 20000 in
theorem rsame_spec (a b : Ms) (hl : a.ws.length ≤ 1048576) (st : St) : ASpec Try.prog 44 [.agg (msC a), .agg (msC b)] st fun v st' => v = .bool (decide (a = b)) ∧ st' = st := by
  refine pure_of (R := fun v => v = _) A13s F44 rfl ?_
  simp (disch := first | omega | (simp only [LL]; omega)) [WW, c44]
  repeat' first
    | (refine region_static rfl (by decide +kernel) ?_; try simp (disch := first | omega | (simp only [LL]; omega)) [WW])
    | (refine And.intro (by omega) ?_; try simp (disch := first | omega | (simp only [LL]; omega)) [WW])
    | (refine guardK_ndec (fun h => ?_) (fun h => ?_) <;> (try simp (disch := first | omega | (simp only [LL]; omega)) [h, WW]))
    | (refine guardK_dec (fun h => ?_) (fun h => ?_) <;> (try simp (disch := first | omega | (simp only [LL]; omega)) [h, WW]))
    | (refine guardK_nbeq (fun h => ?_) (fun h => ?_) <;> (try simp (disch := first | omega | (simp only [LL]; omega)) [h, WW]))
    | (refine guardK_beq (fun h => ?_) (fun h => ?_) <;> (try simp (disch := first | omega | (simp only [LL]; omega)) [h, WW]))
    | (refine guardK_bne (fun h => ?_) (fun h => ?_) <;> (try simp (disch := first | omega | (simp only [LL]; omega)) [h, WW]))
    | (refine guardK_not (fun h => ?_) (fun h => ?_) <;> (try simp (disch := first | omega | (simp only [LL]; omega)) [h, WW]))
    | (refine guardK_split (fun h => ?_) (fun h => ?_) <;> (try simp (disch := first | omega | (simp only [LL]; omega)) [h, WW]))
    | (refine condK_ndec (fun h => ?_) (fun h => ?_) <;> (try simp (disch := first | omega | (simp only [LL]; omega)) [h, WW]))
    | (refine condK_dec (fun h => ?_) (fun h => ?_) <;> (try simp (disch := first | omega | (simp only [LL]; omega)) [h, WW]))
    | (refine condK_nbeq (fun h => ?_) (fun h => ?_) <;> (try simp (disch := first | omega | (simp only [LL]; omega)) [h, WW]))
    | (refine condK_beq (fun h => ?_) (fun h => ?_) <;> (try simp (disch := first | omega | (simp only [LL]; omega)) [h, WW]))
    | (refine condK_bne (fun h => ?_) (fun h => ?_) <;> (try simp (disch := first | omega | (simp only [LL]; omega)) [h, WW]))
    | (refine condK_not (fun h => ?_) (fun h => ?_) <;> (try simp (disch := first | omega | (simp only [LL]; omega)) [h, WW]))
    | (refine condK_split (fun h => ?_) (fun h => ?_) <;> (try simp (disch := first | omega | (simp only [LL]; omega)) [h, WW]))
  all_goals first
    | contradiction
    | (simp only [ms_eq]; simp_all)
theorem great_spec (m : Ms) (st : St) : ASpec Try.prog 14 [.agg (msC m)] st fun v st' => v = .bool (decide (40 < m.ws.length)) ∧ st' = st := by
  refine pure_of (R := fun v => v = _) A13s F14 rfl ?_
  simp (disch := first | omega | (simp only [LL]; omega)) [WW, c14]
  constructor <;> intro h <;> omega
noncomputable def A14 : Orc := A13.add 123 (tab (fun x : Int × Int × Int × Int × Int × Int × Int × Int × Int × Int × Int × UInt8 × UInt8 × UInt8 × UInt8 × UInt8 × UInt8 × UInt8 × UInt8 × Int × Bool × Int × Int × List Wr × Int × Int × Int × Int × Int × Int × Int × Int × Int × Int × Int × UInt8 × UInt8 × UInt8 × UInt8 × UInt8 × UInt8 × UInt8 × UInt8 × Int × Bool × Int × Int × List Wr => [.agg [.int .i8 x.1, .int .i64 x.2.1, .int .i64 x.2.2.1, .int .i64 x.2.2.2.1, .int .i64 x.2.2.2.2.1, .int .i64 x.2.2.2.2.2.1, .int .i64 x.2.2.2.2.2.2.1, .int .i64 x.2.2.2.2.2.2.2.1, .int .i64 x.2.2.2.2.2.2.2.2.1, .int .i8 x.2.2.2.2.2.2.2.2.2.1, .int .i64 x.2.2.2.2.2.2.2.2.2.2.1, u8 x.2.2.2.2.2.2.2.2.2.2.2.1, u8 x.2.2.2.2.2.2.2.2.2.2.2.2.1, u8 x.2.2.2.2.2.2.2.2.2.2.2.2.2.1, u8 x.2.2.2.2.2.2.2.2.2.2.2.2.2.2.1, u8 x.2.2.2.2.2.2.2.2.2.2.2.2.2.2.2.1, u8 x.2.2.2.2.2.2.2.2.2.2.2.2.2.2.2.2.1, u8 x.2.2.2.2.2.2.2.2.2.2.2.2.2.2.2.2.2.1, u8 x.2.2.2.2.2.2.2.2.2.2.2.2.2.2.2.2.2.2.1, .int .i64 x.2.2.2.2.2.2.2.2.2.2.2.2.2.2.2.2.2.2.2.1, .bool x.2.2.2.2.2.2.2.2.2.2.2.2.2.2.2.2.2.2.2.2.1, .int .i64 x.2.2.2.2.2.2.2.2.2.2.2.2.2.2.2.2.2.2.2.2.2.1, .int .i64 x.2.2.2.2.2.2.2.2.2.2.2.2.2.2.2.2.2.2.2.2.2.2.1, .sl .any (wrs x.2.2.2.2.2.2.2.2.2.2.2.2.2.2.2.2.2.2.2.2.2.2.2.1)], .agg [.int .i8 x.2.2.2.2.2.2.2.2.2.2.2.2.2.2.2.2.2.2.2.2.2.2.2.2.1, .int .i64 x.2.2.2.2.2.2.2.2.2.2.2.2.2.2.2.2.2.2.2.2.2.2.2.2.2.1, .int .i64 x.2.2.2.2.2.2.2.2.2.2.2.2.2.2.2.2.2.2.2.2.2.2.2.2.2.2.1, .int .i64 x.2.2.2.2.2.2.2.2.2.2.2.2.2.2.2.2.2.2.2.2.2.2.2.2.2.2.2.1, .int .i64 x.2.2.2.2.2.2.2.2.2.2.2.2.2.2.2.2.2.2.2.2.2.2.2.2.2.2.2.2.1, .int .i64 x.2.2.2.2.2.2.2.2.2.2.2.2.2.2.2.2.2.2.2.2.2.2.2.2.2.2.2.2.2.1, .int .i64 x.2.2.2.2.2.2.2.2.2.2.2.2.2.2.2.2.2.2.2.2.2.2.2.2.2.2.2.2.2.2.1, .int .i64 x.2.2.2.2.2.2.2.2.2.2.2.2.2.2.2.2.2.2.2.2.2.2.2.2.2.2.2.2.2.2.2.1, .int .i64 x.2.2.2.2.2.2.2.2.2.2.2.2.2.2.2.2.2.2.2.2.2.2.2.2.2.2.2.2.2.2.2.2.1, .int .i8 x.2.2.2.2.2.2.2.2.2.2.2.2.2.2.2.2.2.2.2.2.2.2.2.2.2.2.2.2.2.2.2.2.2.1, .int .i64 x.2.2.2.2.2.2.2.2.2.2.2.2.2.2.2.2.2.2.2.2.2.2.2.2.2.2.2.2.2.2.2.2.2.2.1, u8 x.2.2.2.2.2.2.2.2.2.2.2.2.2.2.2.2.2.2.2.2.2.2.2.2.2.2.2.2.2.2.2.2.2.2.2.1, u8 x.2.2.2.2.2.2.2.2.2.2.2.2.2.2.2.2.2.2.2.2.2.2.2.2.2.2.2.2.2.2.2.2.2.2.2.2.1, u8 x.2.2.2.2.2.2.2.2.2.2.2.2.2.2.2.2.2.2.2.2.2.2.2.2.2.2.2.2.2.2.2.2.2.2.2.2.2.1, u8 x.2.2.2.2.2.2.2.2.2.2.2.2.2.2.2.2.2.2.2.2.2.2.2.2.2.2.2.2.2.2.2.2.2.2.2.2.2.2.1, u8 x.2.2.2.2.2.2.2.2.2.2.2.2.2.2.2.2.2.2.2.2.2.2.2.2.2.2.2.2.2.2.2.2.2.2.2.2.2.2.2.1, u8 x.2.2.2.2.2.2.2.2.2.2.2.2.2.2.2.2.2.2.2.2.2.2.2.2.2.2.2.2.2.2.2.2.2.2.2.2.2.2.2.2.1, u8 x.2.2.2.2.2.2.2.2.2.2.2.2.2.2.2.2.2.2.2.2.2.2.2.2.2.2.2.2.2.2.2.2.2.2.2.2.2.2.2.2.2.1, u8 x.2.2.2.2.2.2.2.2.2.2.2.2.2.2.2.2.2.2.2.2.2.2.2.2.2.2.2.2.2.2.2.2.2.2.2.2.2.2.2.2.2.2.1, .int .i64 x.2.2.2.2.2.2.2.2.2.2.2.2.2.2.2.2.2.2.2.2.2.2.2.2.2.2.2.2.2.2.2.2.2.2.2.2.2.2.2.2.2.2.2.1, .bool x.2.2.2.2.2.2.2.2.2.2.2.2.2.2.2.2.2.2.2.2.2.2.2.2.2.2.2.2.2.2.2.2.2.2.2.2.2.2.2.2.2.2.2.2.1, .int .i64 x.2.2.2.2.2.2.2.2.2.2.2.2.2.2.2.2.2.2.2.2.2.2.2.2.2.2.2.2.2.2.2.2.2.2.2.2.2.2.2.2.2.2.2.2.2.1, .int .i64 x.2.2.2.2.2.2.2.2.2.2.2.2.2.2.2.2.2.2.2.2.2.2.2.2.2.2.2.2.2.2.2.2.2.2.2.2.2.2.2.2.2.2.2.2.2.2.1, .sl .any (wrs x.2.2.2.2.2.2.2.2.2.2.2.2.2.2.2.2.2.2.2.2.2.2.2.2.2.2.2.2.2.2.2.2.2.2.2.2.2.2.2.2.2.2.2.2.2.2.2)]]) (fun x => .bool (decide ((⟨x.1, x.2.1, x.2.2.1, x.2.2.2.1, x.2.2.2.2.1, ⟨x.2.2.2.2.2.1, x.2.2.2.2.2.2.1, x.2.2.2.2.2.2.2.1⟩, x.2.2.2.2.2.2.2.2.1, x.2.2.2.2.2.2.2.2.2.1, x.2.2.2.2.2.2.2.2.2.2.1, ⟨x.2.2.2.2.2.2.2.2.2.2.2.1, x.2.2.2.2.2.2.2.2.2.2.2.2.1, x.2.2.2.2.2.2.2.2.2.2.2.2.2.1, x.2.2.2.2.2.2.2.2.2.2.2.2.2.2.1, x.2.2.2.2.2.2.2.2.2.2.2.2.2.2.2.1, x.2.2.2.2.2.2.2.2.2.2.2.2.2.2.2.2.1, x.2.2.2.2.2.2.2.2.2.2.2.2.2.2.2.2.2.1, x.2.2.2.2.2.2.2.2.2.2.2.2.2.2.2.2.2.2.1⟩, x.2.2.2.2.2.2.2.2.2.2.2.2.2.2.2.2.2.2.2.1, x.2.2.2.2.2.2.2.2.2.2.2.2.2.2.2.2.2.2.2.2.1, x.2.2.2.2.2.2.2.2.2.2.2.2.2.2.2.2.2.2.2.2.2.1, x.2.2.2.2.2.2.2.2.2.2.2.2.2.2.2.2.2.2.2.2.2.2.1, x.2.2.2.2.2.2.2.2.2.2.2.2.2.2.2.2.2.2.2.2.2.2.2.1⟩ : Ms) = (⟨x.2.2.2.2.2.2.2.2.2.2.2.2.2.2.2.2.2.2.2.2.2.2.2.2.1, x.2.2.2.2.2.2.2.2.2.2.2.2.2.2.2.2.2.2.2.2.2.2.2.2.2.1, x.2.2.2.2.2.2.2.2.2.2.2.2.2.2.2.2.2.2.2.2.2.2.2.2.2.2.1, x.2.2.2.2.2.2.2.2.2.2.2.2.2.2.2.2.2.2.2.2.2.2.2.2.2.2.2.1, x.2.2.2.2.2.2.2.2.2.2.2.2.2.2.2.2.2.2.2.2.2.2.2.2.2.2.2.2.1, ⟨x.2.2.2.2.2.2.2.2.2.2.2.2.2.2.2.2.2.2.2.2.2.2.2.2.2.2.2.2.2.1, x.2.2.2.2.2.2.2.2.2.2.2.2.2.2.2.2.2.2.2.2.2.2.2.2.2.2.2.2.2.2.1, x.2.2.2.2.2.2.2.2.2.2.2.2.2.2.2.2.2.2.2.2.2.2.2.2.2.2.2.2.2.2.2.1⟩, x.2.2.2.2.2.2.2.2.2.2.2.2.2.2.2.2.2.2.2.2.2.2.2.2.2.2.2.2.2.2.2.2.1, x.2.2.2.2.2.2.2.2.2.2.2.2.2.2.2.2.2.2.2.2.2.2.2.2.2.2.2.2.2.2.2.2.2.1, x.2.2.2.2.2.2.2.2.2.2.2.2.2.2.2.2.2.2.2.2.2.2.2.2.2.2.2.2.2.2.2.2.2.2.1, ⟨x.2.2.2.2.2.2.2.2.2.2.2.2.2.2.2.2.2.2.2.2.2.2.2.2.2.2.2.2.2.2.2.2.2.2.2.1, x.2.2.2.2.2.2.2.2.2.2.2.2.2.2.2.2.2.2.2.2.2.2.2.2.2.2.2.2.2.2.2.2.2.2.2.2.1, x.2.2.2.2.2.2.2.2.2.2.2.2.2.2.2.2.2.2.2.2.2.2.2.2.2.2.2.2.2.2.2.2.2.2.2.2.2.1, x.2.2.2.2.2.2.2.2.2.2.2.2.2.2.2.2.2.2.2.2.2.2.2.2.2.2.2.2.2.2.2.2.2.2.2.2.2.2.1, x.2.2.2.2.2.2.2.2.2.2.2.2.2.2.2.2.2.2.2.2.2.2.2.2.2.2.2.2.2.2.2.2.2.2.2.2.2.2.2.1, x.2.2.2.2.2.2.2.2.2.2.2.2.2.2.2.2.2.2.2.2.2.2.2.2.2.2.2.2.2.2.2.2.2.2.2.2.2.2.2.2.1, x.2.2.2.2.2.2.2.2.2.2.2.2.2.2.2.2.2.2.2.2.2.2.2.2.2.2.2.2.2.2.2.2.2.2.2.2.2.2.2.2.2.1, x.2.2.2.2.2.2.2.2.2.2.2.2.2.2.2.2.2.2.2.2.2.2.2.2.2.2.2.2.2.2.2.2.2.2.2.2.2.2.2.2.2.2.1⟩, x.2.2.2.2.2.2.2.2.2.2.2.2.2.2.2.2.2.2.2.2.2.2.2.2.2.2.2.2.2.2.2.2.2.2.2.2.2.2.2.2.2.2.2.1, x.2.2.2.2.2.2.2.2.2.2.2.2.2.2.2.2.2.2.2.2.2.2.2.2.2.2.2.2.2.2.2.2.2.2.2.2.2.2.2.2.2.2.2.2.1, x.2.2.2.2.2.2.2.2.2.2.2.2.2.2.2.2.2.2.2.2.2.2.2.2.2.2.2.2.2.2.2.2.2.2.2.2.2.2.2.2.2.2.2.2.2.1, x.2.2.2.2.2.2.2.2.2.2.2.2.2.2.2.2.2.2.2.2.2.2.2.2.2.2.2.2.2.2.2.2.2.2.2.2.2.2.2.2.2.2.2.2.2.2.1, x.2.2.2.2.2.2.2.2.2.2.2.2.2.2.2.2.2.2.2.2.2.2.2.2.2.2.2.2.2.2.2.2.2.2.2.2.2.2.2.2.2.2.2.2.2.2.2⟩ : Ms)))) fun x => x.2.2.2.2.2.2.2.2.2.2.2.2.2.2.2.2.2.2.2.2.2.2.2.1.length ≤ 1048576)
theorem A14s : OSound Try.prog A14 := A13s.tab fun x h st => same_spec ⟨x.1, x.2.1, x.2.2.1, x.2.2.2.1, x.2.2.2.2.1, ⟨x.2.2.2.2.2.1, x.2.2.2.2.2.2.1, x.2.2.2.2.2.2.2.1⟩, x.2.2.2.2.2.2.2.2.1, x.2.2.2.2.2.2.2.2.2.1, x.2.2.2.2.2.2.2.2.2.2.1, ⟨x.2.2.2.2.2.2.2.2.2.2.2.1, x.2.2.2.2.2.2.2.2.2.2.2.2.1, x.2.2.2.2.2.2.2.2.2.2.2.2.2.1, x.2.2.2.2.2.2.2.2.2.2.2.2.2.2.1, x.2.2.2.2.2.2.2.2.2.2.2.2.2.2.2.1, x.2.2.2.2.2.2.2.2.2.2.2.2.2.2.2.2.1, x.2.2.2.2.2.2.2.2.2.2.2.2.2.2.2.2.2.1, x.2.2.2.2.2.2.2.2.2.2.2.2.2.2.2.2.2.2.1⟩, x.2.2.2.2.2.2.2.2.2.2.2.2.2.2.2.2.2.2.2.1, x.2.2.2.2.2.2.2.2.2.2.2.2.2.2.2.2.2.2.2.2.1, x.2.2.2.2.2.2.2.2.2.2.2.2.2.2.2.2.2.2.2.2.2.1, x.2.2.2.2.2.2.2.2.2.2.2.2.2.2.2.2.2.2.2.2.2.2.1, x.2.2.2.2.2.2.2.2.2.2.2.2.2.2.2.2.2.2.2.2.2.2.2.1⟩ ⟨x.2.2.2.2.2.2.2.2.2.2.2.2.2.2.2.2.2.2.2.2.2.2.2.2.1, x.2.2.2.2.2.2.2.2.2.2.2.2.2.2.2.2.2.2.2.2.2.2.2.2.2.1, x.2.2.2.2.2.2.2.2.2.2.2.2.2.2.2.2.2.2.2.2.2.2.2.2.2.2.1, x.2.2.2.2.2.2.2.2.2.2.2.2.2.2.2.2.2.2.2.2.2.2.2.2.2.2.2.1, x.2.2.2.2.2.2.2.2.2.2.2.2.2.2.2.2.2.2.2.2.2.2.2.2.2.2.2.2.1, ⟨x.2.2.2.2.2.2.2.2.2.2.2.2.2.2.2.2.2.2.2.2.2.2.2.2.2.2.2.2.2.1, x.2.2.2.2.2.2.2.2.2.2.2.2.2.2.2.2.2.2.2.2.2.2.2.2.2.2.2.2.2.2.1, x.2.2.2.2.2.2.2.2.2.2.2.2.2.2.2.2.2.2.2.2.2.2.2.2.2.2.2.2.2.2.2.1⟩, x.2.2.2.2.2.2.2.2.2.2.2.2.2.2.2.2.2.2.2.2.2.2.2.2.2.2.2.2.2.2.2.2.1, x.2.2.2.2.2.2.2.2.2.2.2.2.2.2.2.2.2.2.2.2.2.2.2.2.2.2.2.2.2.2.2.2.2.1, x.2.2.2.2.2.2.2.2.2.2.2.2.2.2.2.2.2.2.2.2.2.2.2.2.2.2.2.2.2.2.2.2.2.2.1, ⟨x.2.2.2.2.2.2.2.2.2.2.2.2.2.2.2.2.2.2.2.2.2.2.2.2.2.2.2.2.2.2.2.2.2.2.2.1, x.2.2.2.2.2.2.2.2.2.2.2.2.2.2.2.2.2.2.2.2.2.2.2.2.2.2.2.2.2.2.2.2.2.2.2.2.1, x.2.2.2.2.2.2.2.2.2.2.2.2.2.2.2.2.2.2.2.2.2.2.2.2.2.2.2.2.2.2.2.2.2.2.2.2.2.1, x.2.2.2.2.2.2.2.2.2.2.2.2.2.2.2.2.2.2.2.2.2.2.2.2.2.2.2.2.2.2.2.2.2.2.2.2.2.2.1, x.2.2.2.2.2.2.2.2.2.2.2.2.2.2.2.2.2.2.2.2.2.2.2.2.2.2.2.2.2.2.2.2.2.2.2.2.2.2.2.1, x.2.2.2.2.2.2.2.2.2.2.2.2.2.2.2.2.2.2.2.2.2.2.2.2.2.2.2.2.2.2.2.2.2.2.2.2.2.2.2.2.1, x.2.2.2.2.2.2.2.2.2.2.2.2.2.2.2.2.2.2.2.2.2.2.2.2.2.2.2.2.2.2.2.2.2.2.2.2.2.2.2.2.2.1, x.2.2.2.2.2.2.2.2.2.2.2.2.2.2.2.2.2.2.2.2.2.2.2.2.2.2.2.2.2.2.2.2.2.2.2.2.2.2.2.2.2.2.1⟩, x.2.2.2.2.2.2.2.2.2.2.2.2.2.2.2.2.2.2.2.2.2.2.2.2.2.2.2.2.2.2.2.2.2.2.2.2.2.2.2.2.2.2.2.1, x.2.2.2.2.2.2.2.2.2.2.2.2.2.2.2.2.2.2.2.2.2.2.2.2.2.2.2.2.2.2.2.2.2.2.2.2.2.2.2.2.2.2.2.2.1, x.2.2.2.2.2.2.2.2.2.2.2.2.2.2.2.2.2.2.2.2.2.2.2.2.2.2.2.2.2.2.2.2.2.2.2.2.2.2.2.2.2.2.2.2.2.1, x.2.2.2.2.2.2.2.2.2.2.2.2.2.2.2.2.2.2.2.2.2.2.2.2.2.2.2.2.2.2.2.2.2.2.2.2.2.2.2.2.2.2.2.2.2.2.1, x.2.2.2.2.2.2.2.2.2.2.2.2.2.2.2.2.2.2.2.2.2.2.2.2.2.2.2.2.2.2.2.2.2.2.2.2.2.2.2.2.2.2.2.2.2.2.2⟩ h st
@[simp] theorem A14_123 (k : Int) (fr : Int) (to : Int) (inc : Int) (yo : Int) (a : Int) (b : Int) (c : Int) (n : Int) (op : Int) (bl : Int) (v0 : UInt8) (v1 : UInt8) (v2 : UInt8) (v3 : UInt8) (v4 : UInt8) (v5 : UInt8) (v6 : UInt8) (v7 : UInt8) (e : Int) (y : Bool) (g : Int) (t : Int) (ws : List Wr) (k' : Int) (fr' : Int) (to' : Int) (inc' : Int) (yo' : Int) (a' : Int) (b' : Int) (c' : Int) (n' : Int) (op' : Int) (bl' : Int) (v0' : UInt8) (v1' : UInt8) (v2' : UInt8) (v3' : UInt8) (v4' : UInt8) (v5' : UInt8) (v6' : UInt8) (v7' : UInt8) (e' : Int) (y' : Bool) (g' : Int) (t' : Int) (ws' : List Wr) (h : ws.length ≤ 1048576) : A14 123 [.agg [.int .i8 k, .int .i64 fr, .int .i64 to, .int .i64 inc, .int .i64 yo, .int .i64 a, .int .i64 b, .int .i64 c, .int .i64 n, .int .i8 op, .int .i64 bl, u8 v0, u8 v1, u8 v2, u8 v3, u8 v4, u8 v5, u8 v6, u8 v7, .int .i64 e, .bool y, .int .i64 g, .int .i64 t, .sl .any (wrs ws)], .agg [.int .i8 k', .int .i64 fr', .int .i64 to', .int .i64 inc', .int .i64 yo', .int .i64 a', .int .i64 b', .int .i64 c', .int .i64 n', .int .i8 op', .int .i64 bl', u8 v0', u8 v1', u8 v2', u8 v3', u8 v4', u8 v5', u8 v6', u8 v7', .int .i64 e', .bool y', .int .i64 g', .int .i64 t', .sl .any (wrs ws')]] = some (.bool (decide ((⟨k, fr, to, inc, yo, ⟨a, b, c⟩, n, op, bl, ⟨v0, v1, v2, v3, v4, v5, v6, v7⟩, e, y, g, t, ws⟩ : Ms) = (⟨k', fr', to', inc', yo', ⟨a', b', c'⟩, n', op', bl', ⟨v0', v1', v2', v3', v4', v5', v6', v7'⟩, e', y', g', t', ws'⟩ : Ms)))) := by
  rw [A14, Orc.add_same]
  exact tab_eq (fun x y h => by simp at h; simp [h]) (x := (k, fr, to, inc, yo, a, b, c, n, op, bl, v0, v1, v2, v3, v4, v5, v6, v7, e, y, g, t, ws, k', fr', to', inc', yo', a', b', c', n', op', bl', v0', v1', v2', v3', v4', v5', v6', v7', e', y', g', t', ws')) h
@[simp] theorem A14_o (f : Nat) (args : List AV) (h : f ≠ 123) : A14 f args = A13 f args := by
  rw [A14, Orc.add_other _ _ _ _ _ h]
noncomputable def A15 : Orc := A14.add 44 (tab (fun x : Int × Int × Int × Int × Int × Int × Int × Int × Int × Int × Int × UInt8 × UInt8 × UInt8 × UInt8 × UInt8 × UInt8 × UInt8 × UInt8 × Int × Bool × Int × Int × List Wr × Int × Int × Int × Int × Int × Int × Int × Int × Int × Int × Int × UInt8 × UInt8 × UInt8 × UInt8 × UInt8 × UInt8 × UInt8 × UInt8 × Int × Bool × Int × Int × List Wr => [.agg [.int .i8 x.1, .int .i64 x.2.1, .int .i64 x.2.2.1, .int .i64 x.2.2.2.1, .int .i64 x.2.2.2.2.1, .int .i64 x.2.2.2.2.2.1, .int .i64 x.2.2.2.2.2.2.1, .int .i64 x.2.2.2.2.2.2.2.1, .int .i64 x.2.2.2.2.2.2.2.2.1, .int .i8 x.2.2.2.2.2.2.2.2.2.1, .int .i64 x.2.2.2.2.2.2.2.2.2.2.1, u8 x.2.2.2.2.2.2.2.2.2.2.2.1, u8 x.2.2.2.2.2.2.2.2.2.2.2.2.1, u8 x.2.2.2.2.2.2.2.2.2.2.2.2.2.1, u8 x.2.2.2.2.2.2.2.2.2.2.2.2.2.2.1, u8 x.2.2.2.2.2.2.2.2.2.2.2.2.2.2.2.1, u8 x.2.2.2.2.2.2.2.2.2.2.2.2.2.2.2.2.1, u8 x.2.2.2.2.2.2.2.2.2.2.2.2.2.2.2.2.2.1, u8 x.2.2.2.2.2.2.2.2.2.2.2.2.2.2.2.2.2.2.1, .int .i64 x.2.2.2.2.2.2.2.2.2.2.2.2.2.2.2.2.2.2.2.1, .bool x.2.2.2.2.2.2.2.2.2.2.2.2.2.2.2.2.2.2.2.2.1, .int .i64 x.2.2.2.2.2.2.2.2.2.2.2.2.2.2.2.2.2.2.2.2.2.1, .int .i64 x.2.2.2.2.2.2.2.2.2.2.2.2.2.2.2.2.2.2.2.2.2.2.1, .sl .any (wrs x.2.2.2.2.2.2.2.2.2.2.2.2.2.2.2.2.2.2.2.2.2.2.2.1)], .agg [.int .i8 x.2.2.2.2.2.2.2.2.2.2.2.2.2.2.2.2.2.2.2.2.2.2.2.2.1, .int .i64 x.2.2.2.2.2.2.2.2.2.2.2.2.2.2.2.2.2.2.2.2.2.2.2.2.2.1, .int .i64 x.2.2.2.2.2.2.2.2.2.2.2.2.2.2.2.2.2.2.2.2.2.2.2.2.2.2.1, .int .i64 x.2.2.2.2.2.2.2.2.2.2.2.2.2.2.2.2.2.2.2.2.2.2.2.2.2.2.2.1, .int .i64 x.2.2.2.2.2.2.2.2.2.2.2.2.2.2.2.2.2.2.2.2.2.2.2.2.2.2.2.2.1, .int .i64 x.2.2.2.2.2.2.2.2.2.2.2.2.2.2.2.2.2.2.2.2.2.2.2.2.2.2.2.2.2.1, .int .i64 x.2.2.2.2.2.2.2.2.2.2.2.2.2.2.2.2.2.2.2.2.2.2.2.2.2.2.2.2.2.2.1, .int .i64 x.2.2.2.2.2.2.2.2.2.2.2.2.2.2.2.2.2.2.2.2.2.2.2.2.2.2.2.2.2.2.2.1, .int .i64 x.2.2.2.2.2.2.2.2.2.2.2.2.2.2.2.2.2.2.2.2.2.2.2.2.2.2.2.2.2.2.2.2.1, .int .i8 x.2.2.2.2.2.2.2.2.2.2.2.2.2.2.2.2.2.2.2.2.2.2.2.2.2.2.2.2.2.2.2.2.2.1, .int .i64 x.2.2.2.2.2.2.2.2.2.2.2.2.2.2.2.2.2.2.2.2.2.2.2.2.2.2.2.2.2.2.2.2.2.2.1, u8 x.2.2.2.2.2.2.2.2.2.2.2.2.2.2.2.2.2.2.2.2.2.2.2.2.2.2.2.2.2.2.2.2.2.2.2.1, u8 x.2.2.2.2.2.2.2.2.2.2.2.2.2.2.2.2.2.2.2.2.2.2.2.2.2.2.2.2.2.2.2.2.2.2.2.2.1, u8 x.2.2.2.2.2.2.2.2.2.2.2.2.2.2.2.2.2.2.2.2.2.2.2.2.2.2.2.2.2.2.2.2.2.2.2.2.2.1, u8 x.2.2.2.2.2.2.2.2.2.2.2.2.2.2.2.2.2.2.2.2.2.2.2.2.2.2.2.2.2.2.2.2.2.2.2.2.2.2.1, u8 x.2.2.2.2.2.2.2.2.2.2.2.2.2.2.2.2.2.2.2.2.2.2.2.2.2.2.2.2.2.2.2.2.2.2.2.2.2.2.2.1, u8 x.2.2.2.2.2.2.2.2.2.2.2.2.2.2.2.2.2.2.2.2.2.2.2.2.2.2.2.2.2.2.2.2.2.2.2.2.2.2.2.2.1, u8 x.2.2.2.2.2.2.2.2.2.2.2.2.2.2.2.2.2.2.2.2.2.2.2.2.2.2.2.2.2.2.2.2.2.2.2.2.2.2.2.2.2.1, u8 x.2.2.2.2.2.2.2.2.2.2.2.2.2.2.2.2.2.2.2.2.2.2.2.2.2.2.2.2.2.2.2.2.2.2.2.2.2.2.2.2.2.2.1, .int .i64 x.2.2.2.2.2.2.2.2.2.2.2.2.2.2.2.2.2.2.2.2.2.2.2.2.2.2.2.2.2.2.2.2.2.2.2.2.2.2.2.2.2.2.2.1, .bool x.2.2.2.2.2.2.2.2.2.2.2.2.2.2.2.2.2.2.2.2.2.2.2.2.2.2.2.2.2.2.2.2.2.2.2.2.2.2.2.2.2.2.2.2.1, .int .i64 x.2.2.2.2.2.2.2.2.2.2.2.2.2.2.2.2.2.2.2.2.2.2.2.2.2.2.2.2.2.2.2.2.2.2.2.2.2.2.2.2.2.2.2.2.2.1, .int .i64 x.2.2.2.2.2.2.2.2.2.2.2.2.2.2.2.2.2.2.2.2.2.2.2.2.2.2.2.2.2.2.2.2.2.2.2.2.2.2.2.2.2.2.2.2.2.2.1, .sl .any (wrs x.2.2.2.2.2.2.2.2.2.2.2.2.2.2.2.2.2.2.2.2.2.2.2.2.2.2.2.2.2.2.2.2.2.2.2.2.2.2.2.2.2.2.2.2.2.2.2)]]) (fun x => .bool (decide ((⟨x.1, x.2.1, x.2.2.1, x.2.2.2.1, x.2.2.2.2.1, ⟨x.2.2.2.2.2.1, x.2.2.2.2.2.2.1, x.2.2.2.2.2.2.2.1⟩, x.2.2.2.2.2.2.2.2.1, x.2.2.2.2.2.2.2.2.2.1, x.2.2.2.2.2.2.2.2.2.2.1, ⟨x.2.2.2.2.2.2.2.2.2.2.2.1, x.2.2.2.2.2.2.2.2.2.2.2.2.1, x.2.2.2.2.2.2.2.2.2.2.2.2.2.1, x.2.2.2.2.2.2.2.2.2.2.2.2.2.2.1, x.2.2.2.2.2.2.2.2.2.2.2.2.2.2.2.1, x.2.2.2.2.2.2.2.2.2.2.2.2.2.2.2.2.1, x.2.2.2.2.2.2.2.2.2.2.2.2.2.2.2.2.2.1, x.2.2.2.2.2.2.2.2.2.2.2.2.2.2.2.2.2.2.1⟩, x.2.2.2.2.2.2.2.2.2.2.2.2.2.2.2.2.2.2.2.1, x.2.2.2.2.2.2.2.2.2.2.2.2.2.2.2.2.2.2.2.2.1, x.2.2.2.2.2.2.2.2.2.2.2.2.2.2.2.2.2.2.2.2.2.1, x.2.2.2.2.2.2.2.2.2.2.2.2.2.2.2.2.2.2.2.2.2.2.1, x.2.2.2.2.2.2.2.2.2.2.2.2.2.2.2.2.2.2.2.2.2.2.2.1⟩ : Ms) = (⟨x.2.2.2.2.2.2.2.2.2.2.2.2.2.2.2.2.2.2.2.2.2.2.2.2.1, x.2.2.2.2.2.2.2.2.2.2.2.2.2.2.2.2.2.2.2.2.2.2.2.2.2.1, x.2.2.2.2.2.2.2.2.2.2.2.2.2.2.2.2.2.2.2.2.2.2.2.2.2.2.1, x.2.2.2.2.2.2.2.2.2.2.2.2.2.2.2.2.2.2.2.2.2.2.2.2.2.2.2.1, x.2.2.2.2.2.2.2.2.2.2.2.2.2.2.2.2.2.2.2.2.2.2.2.2.2.2.2.2.1, ⟨x.2.2.2.2.2.2.2.2.2.2.2.2.2.2.2.2.2.2.2.2.2.2.2.2.2.2.2.2.2.1, x.2.2.2.2.2.2.2.2.2.2.2.2.2.2.2.2.2.2.2.2.2.2.2.2.2.2.2.2.2.2.1, x.2.2.2.2.2.2.2.2.2.2.2.2.2.2.2.2.2.2.2.2.2.2.2.2.2.2.2.2.2.2.2.1⟩, x.2.2.2.2.2.2.2.2.2.2.2.2.2.2.2.2.2.2.2.2.2.2.2.2.2.2.2.2.2.2.2.2.1, x.2.2.2.2.2.2.2.2.2.2.2.2.2.2.2.2.2.2.2.2.2.2.2.2.2.2.2.2.2.2.2.2.2.1, x.2.2.2.2.2.2.2.2.2.2.2.2.2.2.2.2.2.2.2.2.2.2.2.2.2.2.2.2.2.2.2.2.2.2.1, ⟨x.2.2.2.2.2.2.2.2.2.2.2.2.2.2.2.2.2.2.2.2.2.2.2.2.2.2.2.2.2.2.2.2.2.2.2.1, x.2.2.2.2.2.2.2.2.2.2.2.2.2.2.2.2.2.2.2.2.2.2.2.2.2.2.2.2.2.2.2.2.2.2.2.2.1, x.2.2.2.2.2.2.2.2.2.2.2.2.2.2.2.2.2.2.2.2.2.2.2.2.2.2.2.2.2.2.2.2.2.2.2.2.2.1, x.2.2.2.2.2.2.2.2.2.2.2.2.2.2.2.2.2.2.2.2.2.2.2.2.2.2.2.2.2.2.2.2.2.2.2.2.2.2.1, x.2.2.2.2.2.2.2.2.2.2.2.2.2.2.2.2.2.2.2.2.2.2.2.2.2.2.2.2.2.2.2.2.2.2.2.2.2.2.2.1, x.2.2.2.2.2.2.2.2.2.2.2.2.2.2.2.2.2.2.2.2.2.2.2.2.2.2.2.2.2.2.2.2.2.2.2.2.2.2.2.2.1, x.2.2.2.2.2.2.2.2.2.2.2.2.2.2.2.2.2.2.2.2.2.2.2.2.2.2.2.2.2.2.2.2.2.2.2.2.2.2.2.2.2.1, x.2.2.2.2.2.2.2.2.2.2.2.2.2.2.2.2.2.2.2.2.2.2.2.2.2.2.2.2.2.2.2.2.2.2.2.2.2.2.2.2.2.2.1⟩, x.2.2.2.2.2.2.2.2.2.2.2.2.2.2.2.2.2.2.2.2.2.2.2.2.2.2.2.2.2.2.2.2.2.2.2.2.2.2.2.2.2.2.2.1, x.2.2.2.2.2.2.2.2.2.2.2.2.2.2.2.2.2.2.2.2.2.2.2.2.2.2.2.2.2.2.2.2.2.2.2.2.2.2.2.2.2.2.2.2.1, x.2.2.2.2.2.2.2.2.2.2.2.2.2.2.2.2.2.2.2.2.2.2.2.2.2.2.2.2.2.2.2.2.2.2.2.2.2.2.2.2.2.2.2.2.2.1, x.2.2.2.2.2.2.2.2.2.2.2.2.2.2.2.2.2.2.2.2.2.2.2.2.2.2.2.2.2.2.2.2.2.2.2.2.2.2.2.2.2.2.2.2.2.2.1, x.2.2.2.2.2.2.2.2.2.2.2.2.2.2.2.2.2.2.2.2.2.2.2.2.2.2.2.2.2.2.2.2.2.2.2.2.2.2.2.2.2.2.2.2.2.2.2⟩ : Ms)))) fun x => x.2.2.2.2.2.2.2.2.2.2.2.2.2.2.2.2.2.2.2.2.2.2.2.1.length ≤ 1048576)
theorem A15s : OSound Try.prog A15 := A14s.tab fun x h st => rsame_spec ⟨x.1, x.2.1, x.2.2.1, x.2.2.2.1, x.2.2.2.2.1, ⟨x.2.2.2.2.2.1, x.2.2.2.2.2.2.1, x.2.2.2.2.2.2.2.1⟩, x.2.2.2.2.2.2.2.2.1, x.2.2.2.2.2.2.2.2.2.1, x.2.2.2.2.2.2.2.2.2.2.1, ⟨x.2.2.2.2.2.2.2.2.2.2.2.1, x.2.2.2.2.2.2.2.2.2.2.2.2.1, x.2.2.2.2.2.2.2.2.2.2.2.2.2.1, x.2.2.2.2.2.2.2.2.2.2.2.2.2.2.1, x.2.2.2.2.2.2.2.2.2.2.2.2.2.2.2.1, x.2.2.2.2.2.2.2.2.2.2.2.2.2.2.2.2.1, x.2.2.2.2.2.2.2.2.2.2.2.2.2.2.2.2.2.1, x.2.2.2.2.2.2.2.2.2.2.2.2.2.2.2.2.2.2.1⟩, x.2.2.2.2.2.2.2.2.2.2.2.2.2.2.2.2.2.2.2.1, x.2.2.2.2.2.2.2.2.2.2.2.2.2.2.2.2.2.2.2.2.1, x.2.2.2.2.2.2.2.2.2.2.2.2.2.2.2.2.2.2.2.2.2.1, x.2.2.2.2.2.2.2.2.2.2.2.2.2.2.2.2.2.2.2.2.2.2.1, x.2.2.2.2.2.2.2.2.2.2.2.2.2.2.2.2.2.2.2.2.2.2.2.1⟩ ⟨x.2.2.2.2.2.2.2.2.2.2.2.2.2.2.2.2.2.2.2.2.2.2.2.2.1, x.2.2.2.2.2.2.2.2.2.2.2.2.2.2.2.2.2.2.2.2.2.2.2.2.2.1, x.2.2.2.2.2.2.2.2.2.2.2.2.2.2.2.2.2.2.2.2.2.2.2.2.2.2.1, x.2.2.2.2.2.2.2.2.2.2.2.2.2.2.2.2.2.2.2.2.2.2.2.2.2.2.2.1, x.2.2.2.2.2.2.2.2.2.2.2.2.2.2.2.2.2.2.2.2.2.2.2.2.2.2.2.2.1, ⟨x.2.2.2.2.2.2.2.2.2.2.2.2.2.2.2.2.2.2.2.2.2.2.2.2.2.2.2.2.2.1, x.2.2.2.2.2.2.2.2.2.2.2.2.2.2.2.2.2.2.2.2.2.2.2.2.2.2.2.2.2.2.1, x.2.2.2.2.2.2.2.2.2.2.2.2.2.2.2.2.2.2.2.2.2.2.2.2.2.2.2.2.2.2.2.1⟩, x.2.2.2.2.2.2.2.2.2.2.2.2.2.2.2.2.2.2.2.2.2.2.2.2.2.2.2.2.2.2.2.2.1, x.2.2.2.2.2.2.2.2.2.2.2.2.2.2.2.2.2.2.2.2.2.2.2.2.2.2.2.2.2.2.2.2.2.1, x.2.2.2.2.2.2.2.2.2.2.2.2.2.2.2.2.2.2.2.2.2.2.2.2.2.2.2.2.2.2.2.2.2.2.1, ⟨x.2.2.2.2.2.2.2.2.2.2.2.2.2.2.2.2.2.2.2.2.2.2.2.2.2.2.2.2.2.2.2.2.2.2.2.1, x.2.2.2.2.2.2.2.2.2.2.2.2.2.2.2.2.2.2.2.2.2.2.2.2.2.2.2.2.2.2.2.2.2.2.2.2.1, x.2.2.2.2.2.2.2.2.2.2.2.2.2.2.2.2.2.2.2.2.2.2.2.2.2.2.2.2.2.2.2.2.2.2.2.2.2.1, x.2.2.2.2.2.2.2.2.2.2.2.2.2.2.2.2.2.2.2.2.2.2.2.2.2.2.2.2.2.2.2.2.2.2.2.2.2.2.1, x.2.2.2.2.2.2.2.2.2.2.2.2.2.2.2.2.2.2.2.2.2.2.2.2.2.2.2.2.2.2.2.2.2.2.2.2.2.2.2.1, x.2.2.2.2.2.2.2.2.2.2.2.2.2.2.2.2.2.2.2.2.2.2.2.2.2.2.2.2.2.2.2.2.2.2.2.2.2.2.2.2.1, x.2.2.2.2.2.2.2.2.2.2.2.2.2.2.2.2.2.2.2.2.2.2.2.2.2.2.2.2.2.2.2.2.2.2.2.2.2.2.2.2.2.1, x.2.2.2.2.2.2.2.2.2.2.2.2.2.2.2.2.2.2.2.2.2.2.2.2.2.2.2.2.2.2.2.2.2.2.2.2.2.2.2.2.2.2.1⟩, x.2.2.2.2.2.2.2.2.2.2.2.2.2.2.2.2.2.2.2.2.2.2.2.2.2.2.2.2.2.2.2.2.2.2.2.2.2.2.2.2.2.2.2.1, x.2.2.2.2.2.2.2.2.2.2.2.2.2.2.2.2.2.2.2.2.2.2.2.2.2.2.2.2.2.2.2.2.2.2.2.2.2.2.2.2.2.2.2.2.1, x.2.2.2.2.2.2.2.2.2.2.2.2.2.2.2.2.2.2.2.2.2.2.2.2.2.2.2.2.2.2.2.2.2.2.2.2.2.2.2.2.2.2.2.2.2.1, x.2.2.2.2.2.2.2.2.2.2.2.2.2.2.2.2.2.2.2.2.2.2.2.2.2.2.2.2.2.2.2.2.2.2.2.2.2.2.2.2.2.2.2.2.2.2.1, x.2.2.2.2.2.2.2.2.2.2.2.2.2.2.2.2.2.2.2.2.2.2.2.2.2.2.2.2.2.2.2.2.2.2.2.2.2.2.2.2.2.2.2.2.2.2.2⟩ h st
@[simp] theorem A15_44 (k : Int) (fr : Int) (to : Int) (inc : Int) (yo : Int) (a : Int) (b : Int) (c : Int) (n : Int) (op : Int) (bl : Int) (v0 : UInt8) (v1 : UInt8) (v2 : UInt8) (v3 : UInt8) (v4 : UInt8) (v5 : UInt8) (v6 : UInt8) (v7 : UInt8) (e : Int) (y : Bool) (g : Int) (t : Int) (ws : List Wr) (k' : Int) (fr' : Int) (to' : Int) (inc' : Int) (yo' : Int) (a' : Int) (b' : Int) (c' : Int) (n' : Int) (op' : Int) (bl' : Int) (v0' : UInt8) (v1' : UInt8) (v2' : UInt8) (v3' : UInt8) (v4' : UInt8) (v5' : UInt8) (v6' : UInt8) (v7' : UInt8) (e' : Int) (y' : Bool) (g' : Int) (t' : Int) (ws' : List Wr) (h : ws.length ≤ 1048576) : A15 44 [.agg [.int .i8 k, .int .i64 fr, .int .i64 to, .int .i64 inc, .int .i64 yo, .int .i64 a, .int .i64 b, .int .i64 c, .int .i64 n, .int .i8 op, .int .i64 bl, u8 v0, u8 v1, u8 v2, u8 v3, u8 v4, u8 v5, u8 v6, u8 v7, .int .i64 e, .bool y, .int .i64 g, .int .i64 t, .sl .any (wrs ws)], .agg [.int .i8 k', .int .i64 fr', .int .i64 to', .int .i64 inc', .int .i64 yo', .int .i64 a', .int .i64 b', .int .i64 c', .int .i64 n', .int .i8 op', .int .i64 bl', u8 v0', u8 v1', u8 v2', u8 v3', u8 v4', u8 v5', u8 v6', u8 v7', .int .i64 e', .bool y', .int .i64 g', .int .i64 t', .sl .any (wrs ws')]] = some (.bool (decide ((⟨k, fr, to, inc, yo, ⟨a, b, c⟩, n, op, bl, ⟨v0, v1, v2, v3, v4, v5, v6, v7⟩, e, y, g, t, ws⟩ : Ms) = (⟨k', fr', to', inc', yo', ⟨a', b', c'⟩, n', op', bl', ⟨v0', v1', v2', v3', v4', v5', v6', v7'⟩, e', y', g', t', ws'⟩ : Ms)))) := by
  rw [A15, Orc.add_same]
  exact tab_eq (fun x y h => by simp at h; simp [h]) (x := (k, fr, to, inc, yo, a, b, c, n, op, bl, v0, v1, v2, v3, v4, v5, v6, v7, e, y, g, t, ws, k', fr', to', inc', yo', a', b', c', n', op', bl', v0', v1', v2', v3', v4', v5', v6', v7', e', y', g', t', ws')) h
@[simp] theorem A15_o (f : Nat) (args : List AV) (h : f ≠ 44) : A15 f args = A14 f args := by
  rw [A15, Orc.add_other _ _ _ _ _ h]
noncomputable def A16 : Orc := A15.add 14 (tab (fun x : Int × Int × Int × Int × Int × Int × Int × Int × Int × Int × Int × UInt8 × UInt8 × UInt8 × UInt8 × UInt8 × UInt8 × UInt8 × UInt8 × Int × Bool × Int × Int × List Wr => [.agg [.int .i8 x.1, .int .i64 x.2.1, .int .i64 x.2.2.1, .int .i64 x.2.2.2.1, .int .i64 x.2.2.2.2.1, .int .i64 x.2.2.2.2.2.1, .int .i64 x.2.2.2.2.2.2.1, .int .i64 x.2.2.2.2.2.2.2.1, .int .i64 x.2.2.2.2.2.2.2.2.1, .int .i8 x.2.2.2.2.2.2.2.2.2.1, .int .i64 x.2.2.2.2.2.2.2.2.2.2.1, u8 x.2.2.2.2.2.2.2.2.2.2.2.1, u8 x.2.2.2.2.2.2.2.2.2.2.2.2.1, u8 x.2.2.2.2.2.2.2.2.2.2.2.2.2.1, u8 x.2.2.2.2.2.2.2.2.2.2.2.2.2.2.1, u8 x.2.2.2.2.2.2.2.2.2.2.2.2.2.2.2.1, u8 x.2.2.2.2.2.2.2.2.2.2.2.2.2.2.2.2.1, u8 x.2.2.2.2.2.2.2.2.2.2.2.2.2.2.2.2.2.1, u8 x.2.2.2.2.2.2.2.2.2.2.2.2.2.2.2.2.2.2.1, .int .i64 x.2.2.2.2.2.2.2.2.2.2.2.2.2.2.2.2.2.2.2.1, .bool x.2.2.2.2.2.2.2.2.2.2.2.2.2.2.2.2.2.2.2.2.1, .int .i64 x.2.2.2.2.2.2.2.2.2.2.2.2.2.2.2.2.2.2.2.2.2.1, .int .i64 x.2.2.2.2.2.2.2.2.2.2.2.2.2.2.2.2.2.2.2.2.2.2.1, .sl .any (wrs x.2.2.2.2.2.2.2.2.2.2.2.2.2.2.2.2.2.2.2.2.2.2.2)]]) (fun x => .bool (decide (40 < x.2.2.2.2.2.2.2.2.2.2.2.2.2.2.2.2.2.2.2.2.2.2.2.length))) fun x => True)
theorem A16s : OSound Try.prog A16 := A15s.tab fun x h st => great_spec ⟨x.1, x.2.1, x.2.2.1, x.2.2.2.1, x.2.2.2.2.1, ⟨x.2.2.2.2.2.1, x.2.2.2.2.2.2.1, x.2.2.2.2.2.2.2.1⟩, x.2.2.2.2.2.2.2.2.1, x.2.2.2.2.2.2.2.2.2.1, x.2.2.2.2.2.2.2.2.2.2.1, ⟨x.2.2.2.2.2.2.2.2.2.2.2.1, x.2.2.2.2.2.2.2.2.2.2.2.2.1, x.2.2.2.2.2.2.2.2.2.2.2.2.2.1, x.2.2.2.2.2.2.2.2.2.2.2.2.2.2.1, x.2.2.2.2.2.2.2.2.2.2.2.2.2.2.2.1, x.2.2.2.2.2.2.2.2.2.2.2.2.2.2.2.2.1, x.2.2.2.2.2.2.2.2.2.2.2.2.2.2.2.2.2.1, x.2.2.2.2.2.2.2.2.2.2.2.2.2.2.2.2.2.2.1⟩, x.2.2.2.2.2.2.2.2.2.2.2.2.2.2.2.2.2.2.2.1, x.2.2.2.2.2.2.2.2.2.2.2.2.2.2.2.2.2.2.2.2.1, x.2.2.2.2.2.2.2.2.2.2.2.2.2.2.2.2.2.2.2.2.2.1, x.2.2.2.2.2.2.2.2.2.2.2.2.2.2.2.2.2.2.2.2.2.2.1, x.2.2.2.2.2.2.2.2.2.2.2.2.2.2.2.2.2.2.2.2.2.2.2⟩ st
@[simp] theorem A16_14 (k : Int) (fr : Int) (to : Int) (inc : Int) (yo : Int) (a : Int) (b : Int) (c : Int) (n : Int) (op : Int) (bl : Int) (v0 : UInt8) (v1 : UInt8) (v2 : UInt8) (v3 : UInt8) (v4 : UInt8) (v5 : UInt8) (v6 : UInt8) (v7 : UInt8) (e : Int) (y : Bool) (g : Int) (t : Int) (ws : List Wr) : A16 14 [.agg [.int .i8 k, .int .i64 fr, .int .i64 to, .int .i64 inc, .int .i64 yo, .int .i64 a, .int .i64 b, .int .i64 c, .int .i64 n, .int .i8 op, .int .i64 bl, u8 v0, u8 v1, u8 v2, u8 v3, u8 v4, u8 v5, u8 v6, u8 v7, .int .i64 e, .bool y, .int .i64 g, .int .i64 t, .sl .any (wrs ws)]] = some (.bool (decide (40 < ws.length))) := by
  rw [A16, Orc.add_same]
  exact tab_eq (fun x y h => by simp at h; simp [h]) (x := (k, fr, to, inc, yo, a, b, c, n, op, bl, v0, v1, v2, v3, v4, v5, v6, v7, e, y, g, t, ws)) trivial
@[simp] theorem A16_o (f : Nat) (args : List AV) (h : f ≠ 14) : A16 f args = A15 f args := by
  rw [A16, Orc.add_other _ _ _ _ _ h]
end Go.Proofs.Ytjceilhmgbdgiaa

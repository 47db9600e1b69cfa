/- cashboxref04, cashboxref01: what their functions hand back. -/
import Derived.Test.YtghodhkcjjjjnaaZBack
import Derived.Test.YtghodhkcjjjjnaaZMixed
set_option linter.all false
namespace Go.Proofs.Ytghodhkcjjjjnaa
open Go.Am

noncomputable def Q1 : Orc := P6.add 31 (tab (fun x : BitVec 32 × UInt8 => [u32 x.1, u8 x.2]) (fun x => u32 (thr1 x.1 x.2)) fun x => True)
theorem Q1s : OSound Try.prog Q1 := P6s.tab fun x h st => rem_spec x.1 x.2 st
@[simp] theorem Q1_31 (r : BitVec 32) (b : UInt8) : Q1 31 [u32 r, u8 b] = some (u32 (thr1 r b)) := by
  rw [Q1, Orc.add_same]
  exact tab_eq (fun x y h => by simp at h; simp [h]) (x := (r, b)) trivial
@[simp] theorem Q1_o (f : Nat) (args : List AV) (h : f ≠ 31) : Q1 f args = P6 f args := by
  rw [Q1, Orc.add_other _ _ _ _ _ h]
noncomputable def Q2 : Orc := Q1.add 21 (tab (fun x : BitVec 32 × List UInt8 => [u32 x.1, .sl .any (ofBytes x.2)]) (fun x => u32 (crcJ x.1 x.2)) fun x => x.2.length ≤ 2147483648)
theorem Q2s : OSound Try.prog Q2 := Q1s.tab fun x h st => rjoin_spec x.1 x.2 h st
@[simp] theorem Q2_21 (r : BitVec 32) (l : List UInt8) (h : l.length ≤ 2147483648) : Q2 21 [u32 r, .sl .any (ofBytes l)] = some (u32 (crcJ r l)) := by
  rw [Q2, Orc.add_same]
  exact tab_eq (fun x y h => by simp at h; simp [h]) (x := (r, l)) h
@[simp] theorem Q2_o (f : Nat) (args : List AV) (h : f ≠ 21) : Q2 f args = Q1 f args := by
  rw [Q2, Orc.add_other _ _ _ _ _ h]
noncomputable def Q3 : Orc := Q2.add 9 (tab (fun x : List UInt8 => [.sl .any (ofBytes x)]) (fun x => u32 (crc x)) fun x => x.length ≤ 2147483648)
theorem Q3s : OSound Try.prog Q3 := Q2s.tab fun x h st => rsum_spec x h st
@[simp] theorem Q3_9 (l : List UInt8) (h : l.length ≤ 2147483648) : Q3 9 [.sl .any (ofBytes l)] = some (u32 (crc l)) := by
  rw [Q3, Orc.add_same]
  exact tab_eq (fun x y h => by simp at h; simp [h]) (x := (l)) h
@[simp] theorem Q3_o (f : Nat) (args : List AV) (h : f ≠ 9) : Q3 f args = Q2 f args := by
  rw [Q3, Orc.add_other _ _ _ _ _ h]

def sameF (f g : Fr) : Bool := f.seq == g.seq && f.inc == g.inc && f.part == g.part && f.of == g.of && f.mark == g.mark && f.load == g.load
theorem same4_spec (f g : Fr) (st : St) : ASpec Try.prog 17 [frA f, frA g] st fun v st' => v = .bool (sameF f g) ∧ st' = st := by
  refine pure_of (R := fun v => v = _) Q3s F17 rfl ?_
  simp (disch := first | omega | (simp only [List.length_take, List.length_drop, List.length_append, List.length_cons, List.length_nil, List.length_map]; omega)) [IntWalk.i64_in, IntWalk.i64_quo, c17]
  repeat' first
    | (refine region_static rfl (by decide +kernel) ?_; try simp (disch := first | omega | (simp only [List.length_take, List.length_drop, List.length_append, List.length_cons, List.length_nil, List.length_map]; omega)) [IntWalk.i64_in, IntWalk.i64_quo])
    | (refine And.intro (by omega) ?_; try simp (disch := first | omega | (simp only [List.length_take, List.length_drop, List.length_append, List.length_cons, List.length_nil, List.length_map]; omega)) [IntWalk.i64_in, IntWalk.i64_quo])
    | (refine guardK_ndec (fun h => ?_) (fun h => ?_) <;> (try simp (disch := first | omega | (simp only [List.length_take, List.length_drop, List.length_append, List.length_cons, List.length_nil, List.length_map]; omega)) [h, IntWalk.i64_in, IntWalk.i64_quo]))
    | (refine guardK_dec (fun h => ?_) (fun h => ?_) <;> (try simp (disch := first | omega | (simp only [List.length_take, List.length_drop, List.length_append, List.length_cons, List.length_nil, List.length_map]; omega)) [h, IntWalk.i64_in, IntWalk.i64_quo]))
    | (refine guardK_nbeq (fun h => ?_) (fun h => ?_) <;> (try simp (disch := first | omega | (simp only [List.length_take, List.length_drop, List.length_append, List.length_cons, List.length_nil, List.length_map]; omega)) [h, IntWalk.i64_in, IntWalk.i64_quo]))
    | (refine guardK_beq (fun h => ?_) (fun h => ?_) <;> (try simp (disch := first | omega | (simp only [List.length_take, List.length_drop, List.length_append, List.length_cons, List.length_nil, List.length_map]; omega)) [h, IntWalk.i64_in, IntWalk.i64_quo]))
    | (refine guardK_bne (fun h => ?_) (fun h => ?_) <;> (try simp (disch := first | omega | (simp only [List.length_take, List.length_drop, List.length_append, List.length_cons, List.length_nil, List.length_map]; omega)) [h, IntWalk.i64_in, IntWalk.i64_quo]))
    | (refine guardK_not (fun h => ?_) (fun h => ?_) <;> (try simp (disch := first | omega | (simp only [List.length_take, List.length_drop, List.length_append, List.length_cons, List.length_nil, List.length_map]; omega)) [h, IntWalk.i64_in, IntWalk.i64_quo]))
    | (refine guardK_split (fun h => ?_) (fun h => ?_) <;> (try simp (disch := first | omega | (simp only [List.length_take, List.length_drop, List.length_append, List.length_cons, List.length_nil, List.length_map]; omega)) [h, IntWalk.i64_in, IntWalk.i64_quo]))
    | (refine condK_ndec (fun h => ?_) (fun h => ?_) <;> (try simp (disch := first | omega | (simp only [List.length_take, List.length_drop, List.length_append, List.length_cons, List.length_nil, List.length_map]; omega)) [h, IntWalk.i64_in, IntWalk.i64_quo]))
    | (refine condK_dec (fun h => ?_) (fun h => ?_) <;> (try simp (disch := first | omega | (simp only [List.length_take, List.length_drop, List.length_append, List.length_cons, List.length_nil, List.length_map]; omega)) [h, IntWalk.i64_in, IntWalk.i64_quo]))
    | (refine condK_nbeq (fun h => ?_) (fun h => ?_) <;> (try simp (disch := first | omega | (simp only [List.length_take, List.length_drop, List.length_append, List.length_cons, List.length_nil, List.length_map]; omega)) [h, IntWalk.i64_in, IntWalk.i64_quo]))
    | (refine condK_beq (fun h => ?_) (fun h => ?_) <;> (try simp (disch := first | omega | (simp only [List.length_take, List.length_drop, List.length_append, List.length_cons, List.length_nil, List.length_map]; omega)) [h, IntWalk.i64_in, IntWalk.i64_quo]))
    | (refine condK_bne (fun h => ?_) (fun h => ?_) <;> (try simp (disch := first | omega | (simp only [List.length_take, List.length_drop, List.length_append, List.length_cons, List.length_nil, List.length_map]; omega)) [h, IntWalk.i64_in, IntWalk.i64_quo]))
    | (refine condK_not (fun h => ?_) (fun h => ?_) <;> (try simp (disch := first | omega | (simp only [List.length_take, List.length_drop, List.length_append, List.length_cons, List.length_nil, List.length_map]; omega)) [h, IntWalk.i64_in, IntWalk.i64_quo]))
    | (refine condK_split (fun h => ?_) (fun h => ?_) <;> (try simp (disch := first | omega | (simp only [List.length_take, List.length_drop, List.length_append, List.length_cons, List.length_nil, List.length_map]; omega)) [h, IntWalk.i64_in, IntWalk.i64_quo]))
  all_goals (simp [sameF, *]; try (rw [Bool.eq_iff_iff]; simp))
theorem same_spec (f g : Fr) (st : St) : ASpec Try.prog 19 [frA f, frA g] st fun v st' => v = .bool (sameF f g) ∧ st' = st := by
  refine pure_of (R := fun v => v = _) Q3s F19 rfl ?_
  simp (disch := first | omega | (simp only [List.length_take, List.length_drop, List.length_append, List.length_cons, List.length_nil, List.length_map]; omega)) [IntWalk.i64_in, IntWalk.i64_quo, c19]
  repeat' first
    | (refine region_static rfl (by decide +kernel) ?_; try simp (disch := first | omega | (simp only [List.length_take, List.length_drop, List.length_append, List.length_cons, List.length_nil, List.length_map]; omega)) [IntWalk.i64_in, IntWalk.i64_quo])
    | (refine And.intro (by omega) ?_; try simp (disch := first | omega | (simp only [List.length_take, List.length_drop, List.length_append, List.length_cons, List.length_nil, List.length_map]; omega)) [IntWalk.i64_in, IntWalk.i64_quo])
    | (refine guardK_ndec (fun h => ?_) (fun h => ?_) <;> (try simp (disch := first | omega | (simp only [List.length_take, List.length_drop, List.length_append, List.length_cons, List.length_nil, List.length_map]; omega)) [h, IntWalk.i64_in, IntWalk.i64_quo]))
    | (refine guardK_dec (fun h => ?_) (fun h => ?_) <;> (try simp (disch := first | omega | (simp only [List.length_take, List.length_drop, List.length_append, List.length_cons, List.length_nil, List.length_map]; omega)) [h, IntWalk.i64_in, IntWalk.i64_quo]))
    | (refine guardK_nbeq (fun h => ?_) (fun h => ?_) <;> (try simp (disch := first | omega | (simp only [List.length_take, List.length_drop, List.length_append, List.length_cons, List.length_nil, List.length_map]; omega)) [h, IntWalk.i64_in, IntWalk.i64_quo]))
    | (refine guardK_beq (fun h => ?_) (fun h => ?_) <;> (try simp (disch := first | omega | (simp only [List.length_take, List.length_drop, List.length_append, List.length_cons, List.length_nil, List.length_map]; omega)) [h, IntWalk.i64_in, IntWalk.i64_quo]))
    | (refine guardK_bne (fun h => ?_) (fun h => ?_) <;> (try simp (disch := first | omega | (simp only [List.length_take, List.length_drop, List.length_append, List.length_cons, List.length_nil, List.length_map]; omega)) [h, IntWalk.i64_in, IntWalk.i64_quo]))
    | (refine guardK_not (fun h => ?_) (fun h => ?_) <;> (try simp (disch := first | omega | (simp only [List.length_take, List.length_drop, List.length_append, List.length_cons, List.length_nil, List.length_map]; omega)) [h, IntWalk.i64_in, IntWalk.i64_quo]))
    | (refine guardK_split (fun h => ?_) (fun h => ?_) <;> (try simp (disch := first | omega | (simp only [List.length_take, List.length_drop, List.length_append, List.length_cons, List.length_nil, List.length_map]; omega)) [h, IntWalk.i64_in, IntWalk.i64_quo]))
    | (refine condK_ndec (fun h => ?_) (fun h => ?_) <;> (try simp (disch := first | omega | (simp only [List.length_take, List.length_drop, List.length_append, List.length_cons, List.length_nil, List.length_map]; omega)) [h, IntWalk.i64_in, IntWalk.i64_quo]))
    | (refine condK_dec (fun h => ?_) (fun h => ?_) <;> (try simp (disch := first | omega | (simp only [List.length_take, List.length_drop, List.length_append, List.length_cons, List.length_nil, List.length_map]; omega)) [h, IntWalk.i64_in, IntWalk.i64_quo]))
    | (refine condK_nbeq (fun h => ?_) (fun h => ?_) <;> (try simp (disch := first | omega | (simp only [List.length_take, List.length_drop, List.length_append, List.length_cons, List.length_nil, List.length_map]; omega)) [h, IntWalk.i64_in, IntWalk.i64_quo]))
    | (refine condK_beq (fun h => ?_) (fun h => ?_) <;> (try simp (disch := first | omega | (simp only [List.length_take, List.length_drop, List.length_append, List.length_cons, List.length_nil, List.length_map]; omega)) [h, IntWalk.i64_in, IntWalk.i64_quo]))
    | (refine condK_bne (fun h => ?_) (fun h => ?_) <;> (try simp (disch := first | omega | (simp only [List.length_take, List.length_drop, List.length_append, List.length_cons, List.length_nil, List.length_map]; omega)) [h, IntWalk.i64_in, IntWalk.i64_quo]))
    | (refine condK_not (fun h => ?_) (fun h => ?_) <;> (try simp (disch := first | omega | (simp only [List.length_take, List.length_drop, List.length_append, List.length_cons, List.length_nil, List.length_map]; omega)) [h, IntWalk.i64_in, IntWalk.i64_quo]))
    | (refine condK_split (fun h => ?_) (fun h => ?_) <;> (try simp (disch := first | omega | (simp only [List.length_take, List.length_drop, List.length_append, List.length_cons, List.length_nil, List.length_map]; omega)) [h, IntWalk.i64_in, IntWalk.i64_quo]))
  all_goals (simp [sameF, *]; try (rw [Bool.eq_iff_iff]; simp))
theorem may4_spec (f : Fr) (st : St) : ASpec Try.prog 18 [frA f] st fun v st' => v = .bool (may f) ∧ st' = st := by
  refine pure_of (R := fun v => v = _) Q3s F18 rfl ?_
  simp (disch := first | omega | (simp only [List.length_take, List.length_drop, List.length_append, List.length_cons, List.length_nil, List.length_map]; omega)) [IntWalk.i64_in, IntWalk.i64_quo, c18]
  repeat' first
    | (refine region_static rfl (by decide +kernel) ?_; try simp (disch := first | omega | (simp only [List.length_take, List.length_drop, List.length_append, List.length_cons, List.length_nil, List.length_map]; omega)) [IntWalk.i64_in, IntWalk.i64_quo])
    | (refine And.intro (by omega) ?_; try simp (disch := first | omega | (simp only [List.length_take, List.length_drop, List.length_append, List.length_cons, List.length_nil, List.length_map]; omega)) [IntWalk.i64_in, IntWalk.i64_quo])
    | (refine guardK_ndec (fun h => ?_) (fun h => ?_) <;> (try simp (disch := first | omega | (simp only [List.length_take, List.length_drop, List.length_append, List.length_cons, List.length_nil, List.length_map]; omega)) [h, IntWalk.i64_in, IntWalk.i64_quo]))
    | (refine guardK_dec (fun h => ?_) (fun h => ?_) <;> (try simp (disch := first | omega | (simp only [List.length_take, List.length_drop, List.length_append, List.length_cons, List.length_nil, List.length_map]; omega)) [h, IntWalk.i64_in, IntWalk.i64_quo]))
    | (refine guardK_nbeq (fun h => ?_) (fun h => ?_) <;> (try simp (disch := first | omega | (simp only [List.length_take, List.length_drop, List.length_append, List.length_cons, List.length_nil, List.length_map]; omega)) [h, IntWalk.i64_in, IntWalk.i64_quo]))
    | (refine guardK_beq (fun h => ?_) (fun h => ?_) <;> (try simp (disch := first | omega | (simp only [List.length_take, List.length_drop, List.length_append, List.length_cons, List.length_nil, List.length_map]; omega)) [h, IntWalk.i64_in, IntWalk.i64_quo]))
    | (refine guardK_bne (fun h => ?_) (fun h => ?_) <;> (try simp (disch := first | omega | (simp only [List.length_take, List.length_drop, List.length_append, List.length_cons, List.length_nil, List.length_map]; omega)) [h, IntWalk.i64_in, IntWalk.i64_quo]))
    | (refine guardK_not (fun h => ?_) (fun h => ?_) <;> (try simp (disch := first | omega | (simp only [List.length_take, List.length_drop, List.length_append, List.length_cons, List.length_nil, List.length_map]; omega)) [h, IntWalk.i64_in, IntWalk.i64_quo]))
    | (refine guardK_split (fun h => ?_) (fun h => ?_) <;> (try simp (disch := first | omega | (simp only [List.length_take, List.length_drop, List.length_append, List.length_cons, List.length_nil, List.length_map]; omega)) [h, IntWalk.i64_in, IntWalk.i64_quo]))
    | (refine condK_ndec (fun h => ?_) (fun h => ?_) <;> (try simp (disch := first | omega | (simp only [List.length_take, List.length_drop, List.length_append, List.length_cons, List.length_nil, List.length_map]; omega)) [h, IntWalk.i64_in, IntWalk.i64_quo]))
    | (refine condK_dec (fun h => ?_) (fun h => ?_) <;> (try simp (disch := first | omega | (simp only [List.length_take, List.length_drop, List.length_append, List.length_cons, List.length_nil, List.length_map]; omega)) [h, IntWalk.i64_in, IntWalk.i64_quo]))
    | (refine condK_nbeq (fun h => ?_) (fun h => ?_) <;> (try simp (disch := first | omega | (simp only [List.length_take, List.length_drop, List.length_append, List.length_cons, List.length_nil, List.length_map]; omega)) [h, IntWalk.i64_in, IntWalk.i64_quo]))
    | (refine condK_beq (fun h => ?_) (fun h => ?_) <;> (try simp (disch := first | omega | (simp only [List.length_take, List.length_drop, List.length_append, List.length_cons, List.length_nil, List.length_map]; omega)) [h, IntWalk.i64_in, IntWalk.i64_quo]))
    | (refine condK_bne (fun h => ?_) (fun h => ?_) <;> (try simp (disch := first | omega | (simp only [List.length_take, List.length_drop, List.length_append, List.length_cons, List.length_nil, List.length_map]; omega)) [h, IntWalk.i64_in, IntWalk.i64_quo]))
    | (refine condK_not (fun h => ?_) (fun h => ?_) <;> (try simp (disch := first | omega | (simp only [List.length_take, List.length_drop, List.length_append, List.length_cons, List.length_nil, List.length_map]; omega)) [h, IntWalk.i64_in, IntWalk.i64_quo]))
    | (refine condK_split (fun h => ?_) (fun h => ?_) <;> (try simp (disch := first | omega | (simp only [List.length_take, List.length_drop, List.length_append, List.length_cons, List.length_nil, List.length_map]; omega)) [h, IntWalk.i64_in, IntWalk.i64_quo]))
  all_goals first
    | (unfold may; apply decide_eq_false; omega)
    | (unfold may; apply decide_eq_false; split <;> omega)
    | (unfold may; apply decide_eq_true; split <;> omega)
    | (rw [Bool.eq_iff_iff]; unfold may; simp only [decide_eq_true_eq]; split <;> omega)
noncomputable def Q4 : Orc := Q3.add 17 (tab (fun x : Int × Int × Int × Int × BitVec 32 × List UInt8 × Int × Int × Int × Int × BitVec 32 × List UInt8 => [.agg [.int .i64 x.1, .int .i64 x.2.1, .int .i64 x.2.2.1, .int .i64 x.2.2.2.1, u32 x.2.2.2.2.1, .sl .any (ofBytes x.2.2.2.2.2.1)], .agg [.int .i64 x.2.2.2.2.2.2.1, .int .i64 x.2.2.2.2.2.2.2.1, .int .i64 x.2.2.2.2.2.2.2.2.1, .int .i64 x.2.2.2.2.2.2.2.2.2.1, u32 x.2.2.2.2.2.2.2.2.2.2.1, .sl .any (ofBytes x.2.2.2.2.2.2.2.2.2.2.2)]]) (fun x => .bool (sameF ⟨x.1, x.2.1, x.2.2.1, x.2.2.2.1, x.2.2.2.2.1, x.2.2.2.2.2.1⟩ ⟨x.2.2.2.2.2.2.1, x.2.2.2.2.2.2.2.1, x.2.2.2.2.2.2.2.2.1, x.2.2.2.2.2.2.2.2.2.1, x.2.2.2.2.2.2.2.2.2.2.1, x.2.2.2.2.2.2.2.2.2.2.2⟩)) fun x => True)
theorem Q4s : OSound Try.prog Q4 := Q3s.tab fun x h st => same4_spec ⟨x.1, x.2.1, x.2.2.1, x.2.2.2.1, x.2.2.2.2.1, x.2.2.2.2.2.1⟩ ⟨x.2.2.2.2.2.2.1, x.2.2.2.2.2.2.2.1, x.2.2.2.2.2.2.2.2.1, x.2.2.2.2.2.2.2.2.2.1, x.2.2.2.2.2.2.2.2.2.2.1, x.2.2.2.2.2.2.2.2.2.2.2⟩ st
@[simp] theorem Q4_17 (a : Int) (b : Int) (c : Int) (d : Int) (e : BitVec 32) (l : List UInt8) (a' : Int) (b' : Int) (c' : Int) (d' : Int) (e' : BitVec 32) (l' : List UInt8) : Q4 17 [.agg [.int .i64 a, .int .i64 b, .int .i64 c, .int .i64 d, u32 e, .sl .any (ofBytes l)], .agg [.int .i64 a', .int .i64 b', .int .i64 c', .int .i64 d', u32 e', .sl .any (ofBytes l')]] = some (.bool (sameF ⟨a, b, c, d, e, l⟩ ⟨a', b', c', d', e', l'⟩)) := by
  rw [Q4, Orc.add_same]
  exact tab_eq (fun x y h => by simp at h; simp [h]) (x := (a, b, c, d, e, l, a', b', c', d', e', l')) trivial
@[simp] theorem Q4_o (f : Nat) (args : List AV) (h : f ≠ 17) : Q4 f args = Q3 f args := by
  rw [Q4, Orc.add_other _ _ _ _ _ h]
noncomputable def Q5 : Orc := Q4.add 19 (tab (fun x : Int × Int × Int × Int × BitVec 32 × List UInt8 × Int × Int × Int × Int × BitVec 32 × List UInt8 => [.agg [.int .i64 x.1, .int .i64 x.2.1, .int .i64 x.2.2.1, .int .i64 x.2.2.2.1, u32 x.2.2.2.2.1, .sl .any (ofBytes x.2.2.2.2.2.1)], .agg [.int .i64 x.2.2.2.2.2.2.1, .int .i64 x.2.2.2.2.2.2.2.1, .int .i64 x.2.2.2.2.2.2.2.2.1, .int .i64 x.2.2.2.2.2.2.2.2.2.1, u32 x.2.2.2.2.2.2.2.2.2.2.1, .sl .any (ofBytes x.2.2.2.2.2.2.2.2.2.2.2)]]) (fun x => .bool (sameF ⟨x.1, x.2.1, x.2.2.1, x.2.2.2.1, x.2.2.2.2.1, x.2.2.2.2.2.1⟩ ⟨x.2.2.2.2.2.2.1, x.2.2.2.2.2.2.2.1, x.2.2.2.2.2.2.2.2.1, x.2.2.2.2.2.2.2.2.2.1, x.2.2.2.2.2.2.2.2.2.2.1, x.2.2.2.2.2.2.2.2.2.2.2⟩)) fun x => True)
theorem Q5s : OSound Try.prog Q5 := Q4s.tab fun x h st => same_spec ⟨x.1, x.2.1, x.2.2.1, x.2.2.2.1, x.2.2.2.2.1, x.2.2.2.2.2.1⟩ ⟨x.2.2.2.2.2.2.1, x.2.2.2.2.2.2.2.1, x.2.2.2.2.2.2.2.2.1, x.2.2.2.2.2.2.2.2.2.1, x.2.2.2.2.2.2.2.2.2.2.1, x.2.2.2.2.2.2.2.2.2.2.2⟩ st
@[simp] theorem Q5_19 (a : Int) (b : Int) (c : Int) (d : Int) (e : BitVec 32) (l : List UInt8) (a' : Int) (b' : Int) (c' : Int) (d' : Int) (e' : BitVec 32) (l' : List UInt8) : Q5 19 [.agg [.int .i64 a, .int .i64 b, .int .i64 c, .int .i64 d, u32 e, .sl .any (ofBytes l)], .agg [.int .i64 a', .int .i64 b', .int .i64 c', .int .i64 d', u32 e', .sl .any (ofBytes l')]] = some (.bool (sameF ⟨a, b, c, d, e, l⟩ ⟨a', b', c', d', e', l'⟩)) := by
  rw [Q5, Orc.add_same]
  exact tab_eq (fun x y h => by simp at h; simp [h]) (x := (a, b, c, d, e, l, a', b', c', d', e', l')) trivial
@[simp] theorem Q5_o (f : Nat) (args : List AV) (h : f ≠ 19) : Q5 f args = Q4 f args := by
  rw [Q5, Orc.add_other _ _ _ _ _ h]
noncomputable def Q6 : Orc := Q5.add 18 (tab (fun x : Int × Int × Int × Int × BitVec 32 × List UInt8 => [.agg [.int .i64 x.1, .int .i64 x.2.1, .int .i64 x.2.2.1, .int .i64 x.2.2.2.1, u32 x.2.2.2.2.1, .sl .any (ofBytes x.2.2.2.2.2)]]) (fun x => .bool (may ⟨x.1, x.2.1, x.2.2.1, x.2.2.2.1, x.2.2.2.2.1, x.2.2.2.2.2⟩)) fun x => True)
theorem Q6s : OSound Try.prog Q6 := Q5s.tab fun x h st => may4_spec ⟨x.1, x.2.1, x.2.2.1, x.2.2.2.1, x.2.2.2.2.1, x.2.2.2.2.2⟩ st
@[simp] theorem Q6_18 (a : Int) (b : Int) (c : Int) (d : Int) (e : BitVec 32) (l : List UInt8) : Q6 18 [.agg [.int .i64 a, .int .i64 b, .int .i64 c, .int .i64 d, u32 e, .sl .any (ofBytes l)]] = some (.bool (may ⟨a, b, c, d, e, l⟩)) := by
  rw [Q6, Orc.add_same]
  exact tab_eq (fun x y h => by simp at h; simp [h]) (x := (a, b, c, d, e, l)) trivial
@[simp] theorem Q6_o (f : Nat) (args : List AV) (h : f ≠ 18) : Q6 f args = Q5 f args := by
  rw [Q6, Orc.add_other _ _ _ _ _ h]

theorem seal4_spec (l : List UInt8) (hl : l.length ≤ 1048576) (st : St) : ASpec Try.prog 25 [.sl .any (ofBytes l)] st fun v st' => v = .sl .any (ofBytes (seal_ l)) ∧ st' = st := by
  refine pure_of (R := fun v => v = _) Q6s F25 rfl ?_
  simp (disch := first | omega | (simp only [List.length_take, List.length_drop, List.length_append, List.length_cons, List.length_nil, List.length_map]; omega)) [IntWalk.i64_in, IntWalk.i64_quo, c25]
  refine ⟨by omega, by omega, ?_⟩
  simp [seal_, crcB]
noncomputable def Q7 : Orc := Q6.add 25 (tab (fun x : List UInt8 => [.sl .any (ofBytes x)]) (fun x => .sl .any (ofBytes (seal_ x))) fun x => x.length ≤ 1048576)
theorem Q7s : OSound Try.prog Q7 := Q6s.tab fun x h st => seal4_spec x h st
@[simp] theorem Q7_25 (l : List UInt8) (h : l.length ≤ 1048576) : Q7 25 [.sl .any (ofBytes l)] = some (.sl .any (ofBytes (seal_ l))) := by
  rw [Q7, Orc.add_same]
  exact tab_eq (fun x y h => by simp at h; simp [h]) (x := (l)) h
@[simp] theorem Q7_o (f : Nat) (args : List AV) (h : f ≠ 25) : Q7 f args = Q6 f args := by
  rw [Q7, Orc.add_other _ _ _ _ _ h]

theorem open4_spec (l : List UInt8) (hl : l.length ≤ 1048576) (st : St) : ASpec Try.prog 28 [.sl .any (ofBytes l)] st fun v st' => v = openA l ∧ st' = st := by
  refine pure_of (R := fun v => v = _) Q7s F28 rfl ?_
  by_cases h4 : 4 ≤ l.length
  case neg =>
    have h4' : (l.length : Int) < 4 := by omega
    simp (disch := first | omega | (simp only [List.length_take, List.length_drop, List.length_append, List.length_cons, List.length_nil, List.length_map]; omega)) [IntWalk.i64_in, IntWalk.i64_quo, c28, h4']
    rw [openA, if_neg (fun h => h4 h.1)]
  obtain ⟨n, hn⟩ : ∃ n, l.length = n + 4 := ⟨l.length - 4, by omega⟩
  have h4' : ¬ (l.length : Int) < 4 := by omega
  obtain ⟨b0, g0⟩ : ∃ b, l[n]'(by omega) = b := ⟨_, rfl⟩
  obtain ⟨b1, g1⟩ : ∃ b, l[n + 1]'(by omega) = b := ⟨_, rfl⟩
  obtain ⟨b2, g2⟩ : ∃ b, l[n + 2]'(by omega) = b := ⟨_, rfl⟩
  obtain ⟨b3, g3⟩ : ∃ b, l[n + 3]'(by omega) = b := ⟨_, rfl⟩
  have hd : l.drop n = [b0, b1, b2, b3] := by
    rw [List.drop_eq_getElem_cons (by omega), List.drop_eq_getElem_cons (by omega), List.drop_eq_getElem_cons (by omega), List.drop_eq_getElem_cons (by omega), List.drop_of_length_le (by omega), g0, g1, g2, g3]
  have hA : openA l = if crcB (crc (l.take n)) = [b0, b1, b2, b3] then .tup [.sl .any (ofBytes (l.take n)), .bool true] else .tup [.sl .any [], .bool false] := by
    rw [openA, hn, show n + 4 - 4 = n by omega, hd]
    simp
  have i2 : ((n : Int) + 2).toNat = n + 2 := by omega
  have i3 : ((n : Int) + 3).toNat = n + 3 := by omega
  have h4'' : ¬ (n : Int) + 4 < 4 := by omega
  simp (disch := first | omega | (simp only [List.length_take, List.length_drop, List.length_append, List.length_cons, List.length_nil, List.length_map]; omega)) [IntWalk.i64_in, IntWalk.i64_quo, c28, h4', h4'', hA, hn]
  repeat' first
    | (refine region_static rfl (by decide +kernel) ?_; try simp (disch := first | omega | (simp only [List.length_take, List.length_drop, List.length_append, List.length_cons, List.length_nil, List.length_map]; omega)) [IntWalk.i64_in, IntWalk.i64_quo, h4', hA, hn, i2, i3, g0, g1, g2, g3])
    | (refine And.intro (by omega) ?_; try simp (disch := first | omega | (simp only [List.length_take, List.length_drop, List.length_append, List.length_cons, List.length_nil, List.length_map]; omega)) [IntWalk.i64_in, IntWalk.i64_quo, h4', hA, hn, i2, i3, g0, g1, g2, g3])
    | (refine guardK_ndec (fun h => ?_) (fun h => ?_) <;> (try simp (disch := first | omega | (simp only [List.length_take, List.length_drop, List.length_append, List.length_cons, List.length_nil, List.length_map]; omega)) [h, IntWalk.i64_in, IntWalk.i64_quo, h4', hA, hn, i2, i3, g0, g1, g2, g3]))
    | (refine guardK_dec (fun h => ?_) (fun h => ?_) <;> (try simp (disch := first | omega | (simp only [List.length_take, List.length_drop, List.length_append, List.length_cons, List.length_nil, List.length_map]; omega)) [h, IntWalk.i64_in, IntWalk.i64_quo, h4', hA, hn, i2, i3, g0, g1, g2, g3]))
    | (refine guardK_nbeq (fun h => ?_) (fun h => ?_) <;> (try simp (disch := first | omega | (simp only [List.length_take, List.length_drop, List.length_append, List.length_cons, List.length_nil, List.length_map]; omega)) [h, IntWalk.i64_in, IntWalk.i64_quo, h4', hA, hn, i2, i3, g0, g1, g2, g3]))
    | (refine guardK_beq (fun h => ?_) (fun h => ?_) <;> (try simp (disch := first | omega | (simp only [List.length_take, List.length_drop, List.length_append, List.length_cons, List.length_nil, List.length_map]; omega)) [h, IntWalk.i64_in, IntWalk.i64_quo, h4', hA, hn, i2, i3, g0, g1, g2, g3]))
    | (refine guardK_bne (fun h => ?_) (fun h => ?_) <;> (try simp (disch := first | omega | (simp only [List.length_take, List.length_drop, List.length_append, List.length_cons, List.length_nil, List.length_map]; omega)) [h, IntWalk.i64_in, IntWalk.i64_quo, h4', hA, hn, i2, i3, g0, g1, g2, g3]))
    | (refine guardK_not (fun h => ?_) (fun h => ?_) <;> (try simp (disch := first | omega | (simp only [List.length_take, List.length_drop, List.length_append, List.length_cons, List.length_nil, List.length_map]; omega)) [h, IntWalk.i64_in, IntWalk.i64_quo, h4', hA, hn, i2, i3, g0, g1, g2, g3]))
    | (refine guardK_split (fun h => ?_) (fun h => ?_) <;> (try simp (disch := first | omega | (simp only [List.length_take, List.length_drop, List.length_append, List.length_cons, List.length_nil, List.length_map]; omega)) [h, IntWalk.i64_in, IntWalk.i64_quo, h4', hA, hn, i2, i3, g0, g1, g2, g3]))
    | (refine condK_ndec (fun h => ?_) (fun h => ?_) <;> (try simp (disch := first | omega | (simp only [List.length_take, List.length_drop, List.length_append, List.length_cons, List.length_nil, List.length_map]; omega)) [h, IntWalk.i64_in, IntWalk.i64_quo, h4', hA, hn, i2, i3, g0, g1, g2, g3]))
    | (refine condK_dec (fun h => ?_) (fun h => ?_) <;> (try simp (disch := first | omega | (simp only [List.length_take, List.length_drop, List.length_append, List.length_cons, List.length_nil, List.length_map]; omega)) [h, IntWalk.i64_in, IntWalk.i64_quo, h4', hA, hn, i2, i3, g0, g1, g2, g3]))
    | (refine condK_nbeq (fun h => ?_) (fun h => ?_) <;> (try simp (disch := first | omega | (simp only [List.length_take, List.length_drop, List.length_append, List.length_cons, List.length_nil, List.length_map]; omega)) [h, IntWalk.i64_in, IntWalk.i64_quo, h4', hA, hn, i2, i3, g0, g1, g2, g3]))
    | (refine condK_beq (fun h => ?_) (fun h => ?_) <;> (try simp (disch := first | omega | (simp only [List.length_take, List.length_drop, List.length_append, List.length_cons, List.length_nil, List.length_map]; omega)) [h, IntWalk.i64_in, IntWalk.i64_quo, h4', hA, hn, i2, i3, g0, g1, g2, g3]))
    | (refine condK_bne (fun h => ?_) (fun h => ?_) <;> (try simp (disch := first | omega | (simp only [List.length_take, List.length_drop, List.length_append, List.length_cons, List.length_nil, List.length_map]; omega)) [h, IntWalk.i64_in, IntWalk.i64_quo, h4', hA, hn, i2, i3, g0, g1, g2, g3]))
    | (refine condK_not (fun h => ?_) (fun h => ?_) <;> (try simp (disch := first | omega | (simp only [List.length_take, List.length_drop, List.length_append, List.length_cons, List.length_nil, List.length_map]; omega)) [h, IntWalk.i64_in, IntWalk.i64_quo, h4', hA, hn, i2, i3, g0, g1, g2, g3]))
    | (refine condK_split (fun h => ?_) (fun h => ?_) <;> (try simp (disch := first | omega | (simp only [List.length_take, List.length_drop, List.length_append, List.length_cons, List.length_nil, List.length_map]; omega)) [h, IntWalk.i64_in, IntWalk.i64_quo, h4', hA, hn, i2, i3, g0, g1, g2, g3]))
  all_goals (simp [crcB, *]; try (intro hh; simp_all))
noncomputable def Q8 : Orc := Q7.add 28 (tab (fun x : List UInt8 => [.sl .any (ofBytes x)]) (fun x => openA x) fun x => x.length ≤ 1048576)
theorem Q8s : OSound Try.prog Q8 := Q7s.tab fun x h st => open4_spec x h st
@[simp] theorem Q8_28 (l : List UInt8) (h : l.length ≤ 1048576) : Q8 28 [.sl .any (ofBytes l)] = some (openA l) := by
  rw [Q8, Orc.add_same]
  exact tab_eq (fun x y h => by simp at h; simp [h]) (x := (l)) h
@[simp] theorem Q8_o (f : Nat) (args : List AV) (h : f ≠ 28) : Q8 f args = Q7 f args := by
  rw [Q8, Orc.add_other _ _ _ _ _ h]


/-! low: what it is handed it goes on with. -/
theorem ofInt_low (m i : Nat) : UInt8.ofInt (((m / 256 ^ i : Nat) : Int) % 256) = UInt8.ofInt ((m : Int) / 2 ^ (8 * i)) := by
  have h : (m : Int) / 2 ^ (8 * i) = ((m / 256 ^ i : Nat) : Int) := by
    rw [show (256 : Nat) = 2 ^ 8 from rfl, ← Nat.pow_mul]
    simp
  rw [h]
  generalize m / 256 ^ i = x
  unfold UInt8.ofInt
  congr 1
  omega

theorem set_self {α : Type} {l : List α} {k : Nat} {x : α} (h : l[k]? = some x) : l.set k x = l := by
  obtain ⟨h1, rfl⟩ := List.getElem?_eq_some_iff.1 h
  exact List.set_getElem_self h1

def sh (m i : Nat) : Nat := m / 256 ^ i
theorem sh_0 (m : Nat) : sh m 0 = m := by simp [sh]
theorem sh_lt {m i : Nat} (h : m < 2 ^ 64) : sh m i < 2 ^ 64 := Nat.lt_of_le_of_lt (Nat.div_le_self _ _) h
theorem sh_and {m : Nat} (h : m < 2 ^ 64) (i : Nat) : intBin .and .u64 (sh m i : Int) 255 = some (.int .u64 ((sh m i : Int) % 256)) := by
  have h1 := and_lowu (sh m i) 8 255 (by decide) (sh_lt h) (by decide)
  rw [show ((sh m i % 2 ^ 8 : Nat) : Int) = (sh m i : Int) % 256 by simp] at h1
  exact h1
theorem sh_shr (m i : Nat) : shiftBin .shr .u64 (sh m i : Int) 8 = some (.int .u64 (sh m (i + 1) : Nat)) := by
  rw [shr_u64 (sh m i) 8 8 rfl (by decide), sh, sh, Nat.div_div_eq_div_mul, show (2 : Nat) ^ 8 = 256 from rfl, ← Nat.pow_succ]
theorem low_own (l : List UInt8) (m w k : Nat) (h : List Blk) (tk : List (Nat × Nat)) (hm : m < 2 ^ 64) (hl : l.length ≤ 1000) (hw : w ≤ 8) (hk : tk[k]? = some (l.length, 1)) :
    ASpec Try.prog 24 [.sl (.own k) (ofBytes l), .int .u64 m, .int .i64 w] ⟨h, tk⟩ fun v st' => v = .sl (.own k) (ofBytes (l ++ le w m)) ∧ st' = ⟨h, tk.set k (l.length + w, 1)⟩ := by
  refine raw_of Q8s F24 rfl ?_
  simp (disch := first | omega | (simp only [List.length_take, List.length_drop, List.length_append, List.length_cons, List.length_nil, List.length_map]; omega)) [IntWalk.i64_in, IntWalk.i64_quo, c24]
  have hkl : k < tk.length := (List.getElem?_eq_some_iff.1 hk).1
  refine awC_loopW (fun j env s => ∃ i, j + i = w ∧ env 0 = .sl (.own k) (ofBytes (l ++ le i m)) ∧ env 1 = .int .u64 (sh m i) ∧ env 2 = .int .i64 w ∧ env 7 = .int .i64 i ∧ s = ⟨h, tk.set k (l.length + i, 1)⟩) w ?_ ?_
  · refine ⟨0, rfl, ?_⟩
    simp [le, set_self hk, sh_0]
  rintro j env s ⟨i, hj, e0, e1, e2, e7, rfl⟩
  by_cases hi : i < w
  · have hi' : (i : Int) < w := by omega
    have h3 : UInt8.ofInt ((sh m i : Int) % 256) = UInt8.ofInt ((m : Int) / 2 ^ (8 * i)) := ofInt_low m i
    simp (disch := first | omega | (simp only [List.length_take, List.length_drop, List.length_append, List.length_cons, List.length_nil, List.length_map]; omega)) [IntWalk.i64_in, IntWalk.i64_quo, e0, e1, e2, e7, hi', sh_and hm, sh_shr, hkl, h3]
    refine ⟨by omega, j - 1, by omega, i + 1, by omega, ?_⟩
    simp [le_succ, Nat.add_assoc]
  · have hi' : ¬ (i : Int) < w := by omega
    have : i = w := by omega
    subst this
    simp (disch := first | omega | (simp only [List.length_take, List.length_drop, List.length_append, List.length_cons, List.length_nil, List.length_map]; omega)) [IntWalk.i64_in, IntWalk.i64_quo, e0, e1, e2, e7, hi']
    exact .inl ⟨by simp, by simp, rfl, rfl⟩
theorem low_nil (m w : Nat) (h : List Blk) (tk : List (Nat × Nat)) (hm : m < 2 ^ 64) (hw : w ≤ 8) :
    ASpec Try.prog 24 [.sl .clip [], .int .u64 m, .int .i64 w] ⟨h, tk⟩ fun v st' => v = .sl (.own tk.length) (ofBytes (le w m)) ∧ st' = ⟨h, tk ++ [(w, 1)]⟩ := by
  refine raw_of Q8s F24 rfl ?_
  simp (disch := first | omega | (simp only [List.length_take, List.length_drop, List.length_append, List.length_cons, List.length_nil, List.length_map]; omega)) [IntWalk.i64_in, IntWalk.i64_quo, c24]
  refine awC_loopOwn 0 1 [] (by simp) (fun j env s => ∃ i, j + i = w ∧ env 0 = .sl (.own tk.length) (ofBytes (le i m)) ∧ env 1 = .int .u64 (sh m i) ∧ env 2 = .int .i64 w ∧ env 7 = .int .i64 i ∧ s = ⟨h, tk ++ [(i, 1)]⟩) w ?_ ?_
  · refine ⟨0, rfl, ?_⟩
    simp [le, sh_0]
  rintro j env s ⟨i, hj, e0, e1, e2, e7, rfl⟩
  by_cases hi : i < w
  · have hi' : (i : Int) < w := by omega
    have h3 : UInt8.ofInt ((sh m i : Int) % 256) = UInt8.ofInt ((m : Int) / 2 ^ (8 * i)) := ofInt_low m i
    simp (disch := first | omega | (simp only [List.length_take, List.length_drop, List.length_append, List.length_cons, List.length_nil, List.length_map]; omega)) [IntWalk.i64_in, IntWalk.i64_quo, e0, e1, e2, e7, hi', sh_and hm, sh_shr, h3]
    refine ⟨by omega, j - 1, by omega, [0, 1, 2, 7], _, .tok (tk := tk ++ [(i + 1, 1)]) (by simp) (by simp) (by simp) ?_, i + 1, by omega, ?_⟩
    · simp [e2]
    simp [le_succ, e2]
  · have hi' : ¬ (i : Int) < w := by omega
    have : i = w := by omega
    subst this
    simp (disch := first | omega | (simp only [List.length_take, List.length_drop, List.length_append, List.length_cons, List.length_nil, List.length_map]; omega)) [IntWalk.i64_in, IntWalk.i64_quo, e0, e1, e2, e7, hi']
    exact .inl ⟨by simp, by simp, rfl, rfl⟩

theorem num_cons (l : List UInt8) (i : Nat) (h : i < l.length) : num (l.drop i) = l[i].toNat + 256 * num (l.drop (i + 1)) := by
  rw [List.drop_eq_getElem_cons h, num]
@[simp] theorem O4_o (f : Nat) (args : List AV) (h : f ≠ 30) : O4 f args = O3 f args := by
  rw [O4, Orc.add_other _ _ _ _ _ h]
@[simp] theorem O3_o (f : Nat) (args : List AV) (h : f ≠ 33) : O3 f args = O2 f args := by
  rw [O3, Orc.add_other _ _ _ _ _ h]
@[simp] theorem O2_o (f : Nat) (args : List AV) (h : f ≠ 34) : O2 f args = O1 f args := by
  rw [O2, Orc.add_other _ _ _ _ _ h]
@[simp] theorem O1_o (f : Nat) (args : List AV) (h : f ≠ 35) : O1 f args = none := by
  rw [O1, Orc.add_other _ _ _ _ _ h]
  rfl
theorem low_own' (l : List UInt8) (n : Int) (w k : Nat) (h : List Blk) (tk : List (Nat × Nat)) (hm : 0 ≤ n ∧ n < 18446744073709551616) (hl : l.length ≤ 1000) (hw : w ≤ 8) (hk : tk[k]? = some (l.length, 1)) :
    ASpec Try.prog 24 [.sl (.own k) (ofBytes l), .int .u64 n, .int .i64 w] ⟨h, tk⟩ fun v st' => v = .sl (.own k) (ofBytes (l ++ le w n)) ∧ st' = ⟨h, tk.set k (l.length + w, 1)⟩ := by
  obtain ⟨m, rfl⟩ := Int.eq_ofNat_of_zero_le hm.1
  exact low_own l m w k h tk (by omega) hl hw hk
theorem low_nil' (n : Int) (w : Nat) (h : List Blk) (tk : List (Nat × Nat)) (hm : 0 ≤ n ∧ n < 18446744073709551616) (hw : w ≤ 8) :
    ASpec Try.prog 24 [.sl .clip [], .int .u64 n, .int .i64 w] ⟨h, tk⟩ fun v st' => v = .sl (.own tk.length) (ofBytes (le w n)) ∧ st' = ⟨h, tk ++ [(w, 1)]⟩ := by
  obtain ⟨m, rfl⟩ := Int.eq_ofNat_of_zero_le hm.1
  exact low_nil m w h tk (by omega) hw
theorem number_spec (l : List UInt8) (hl : l.length ≤ 7) (st : St) : ASpec Try.prog 29 [.sl .any (ofBytes l)] st fun v st' => v = .int .u64 (num l) ∧ st' = st := by
  refine pure_of (R := fun v => v = _) Q8s F29 rfl ?_
  simp (disch := first | omega | (simp only [List.length_take, List.length_drop, List.length_append, List.length_cons, List.length_nil, List.length_map]; omega)) [IntWalk.i64_in, IntWalk.i64_quo, c29]
  refine awC_loop (fun k env s => k ≤ l.length ∧ env 0 = .sl .any (ofBytes l) ∧ env 3 = .int .u64 (num (l.drop k)) ∧ env 4 = .int .i64 ((k : Int) - 1) ∧ s = st) l.length ?_ ?_
  · simp [num]
  rintro k env s ⟨hk, e0, e3, e4, rfl⟩
  by_cases hi : k = 0
  · subst hi
    simp at e3 e4
    simp (disch := first | omega | (simp only [List.length_take, List.length_drop, List.length_append, List.length_cons, List.length_nil, List.length_map]; omega)) [IntWalk.i64_in, IntWalk.i64_quo, e0, e3, e4]
  · obtain ⟨i, rfl⟩ : ∃ i, k = i + 1 := ⟨k - 1, by omega⟩
    have e4' : env 4 = .int .i64 i := by rw [e4]; congr 1; omega
    have hlt : i < l.length := by omega
    have hi0 : 0 ≤ (i : Int) := by omega
    have hn := num_lt (l.drop (i + 1))
    have hp : 256 ^ (l.drop (i + 1)).length ≤ 256 ^ 6 := Nat.pow_le_pow_right (by decide) (by simp; omega)
    have hb := (l[i]).toNat_lt
    obtain ⟨x, hx⟩ : ∃ x, num (l.drop (i + 1)) = x := ⟨_, rfl⟩
    rw [hx] at e3 hn
    have hs1 : shiftBin .shl .u64 (x : Int) 8 = some (.int .u64 (x * 256 : Nat)) := shl_u64 x 8 (by decide) (by omega)
    have hs2 : intBin .or .u64 ((x : Int) * 256) (l[i].toNat : Int) = some (.int .u64 (num (l.drop i) : Nat)) := by
      have h := Nat.two_pow_add_eq_or_of_lt (b := (l[i]).toNat) (i := 8) (by omega) x
      have h2 := or_u64 (x * 256) (l[i]).toNat (by omega) (by omega)
      rw [show ((x * 256 : Nat) : Int) = (x : Int) * 256 by simp] at h2
      rw [h2, Nat.mul_comm x, show (256 : Nat) = 2 ^ 8 from rfl, ← h, num_cons l i hlt, hx]
      congr 3
      omega
    simp (disch := first | omega | (simp only [List.length_take, List.length_drop, List.length_append, List.length_cons, List.length_nil, List.length_map]; omega)) [IntWalk.i64_in, IntWalk.i64_quo, e0, e3, e4', hi0, hlt, hs1, hs2]
    refine ⟨i, by omega, [0, 3, 4], _, .pop (by simp) (by simp) (by simp [e0]), by omega, ?_⟩
    simp [e0]
noncomputable def Q9 : Orc := Q8.add 29 (tab (fun x : List UInt8 => [.sl .any (ofBytes x)]) (fun x => .int .u64 (num x)) fun x => x.length ≤ 7)
theorem Q9s : OSound Try.prog Q9 := Q8s.tab fun x h st => number_spec x h st
@[simp] theorem Q9_29 (l : List UInt8) (h : l.length ≤ 7) : Q9 29 [.sl .any (ofBytes l)] = some (.int .u64 (num l)) := by
  rw [Q9, Orc.add_same]
  exact tab_eq (fun x y h => by simp at h; simp [h]) (x := (l)) h
@[simp] theorem Q9_o (f : Nat) (args : List AV) (h : f ≠ 29) : Q9 f args = Q8 f args := by
  rw [Q9, Orc.add_other _ _ _ _ _ h]

theorem bytes4_spec (f : Fr) (st : St) : ASpec Try.prog 14 [frA f] st fun v st' => v = bytesA f ∧ st' = st := by
  refine pure_of (R := fun v => v = _) Q9s F14 rfl ?_
  by_cases hm : may f = true
  case neg =>
    simp (disch := first | omega | (simp only [List.length_take, List.length_drop, List.length_append, List.length_cons, List.length_nil, List.length_map]; omega)) [IntWalk.i64_in, IntWalk.i64_quo, c14, hm, bytesA]
  have hmay := may_all hm
  have hmk := f.mark.isLt
  have w1 : IntKind.u64.wrap f.seq = f.seq := IntWalk.u64_in _ (by omega)
  have w2 : IntKind.u64.wrap f.inc = f.inc := IntWalk.u64_in _ (by omega)
  simp (disch := first | omega | (simp only [List.length_take, List.length_drop, List.length_append, List.length_cons, List.length_nil, List.length_map]; omega)) [IntWalk.i64_in, IntWalk.i64_quo, c14, hm, bytesA, w1, w2]
  refine (low_nil' f.seq 6 _ _ (by omega) (by omega)).mono ?_
  rintro _ _ ⟨rfl, rfl⟩
  simp (disch := first | omega | (simp only [List.length_take, List.length_drop, List.length_append, List.length_cons, List.length_nil, List.length_map]; omega)) [IntWalk.i64_in, IntWalk.i64_quo, w1, w2]
  refine (low_own' (le 6 f.seq) f.inc 3 _ _ _ (by omega) (by simp) (by omega) (by simp)).mono ?_
  rintro _ _ ⟨rfl, rfl⟩
  simp (disch := first | omega | (simp only [List.length_take, List.length_drop, List.length_append, List.length_cons, List.length_nil, List.length_map]; omega)) [IntWalk.i64_in, IntWalk.i64_quo, w1, w2]
  refine (low_own' _ f.mark.toNat 4 _ _ _ (by omega) (by simp) (by omega) (by simp)).mono ?_
  rintro _ _ ⟨rfl, rfl⟩
  simp (disch := first | omega | (simp only [List.length_take, List.length_drop, List.length_append, List.length_cons, List.length_nil, List.length_map]; omega)) [IntWalk.i64_in, IntWalk.i64_quo, w1, w2]
  refine ⟨by omega, ?_⟩
  obtain ⟨X, hX⟩ : ∃ X, X = headB f ++ f.load := ⟨_, rfl⟩
  have hXl : X.length = 15 + f.load.length := by rw [hX, headB, List.length_append, hb5_len]
  have hX2 : le 6 f.seq ++ (le 3 f.inc ++ (UInt8.ofInt 16 * UInt8.ofInt f.part + UInt8.ofInt f.of) :: UInt8.ofInt f.load.length :: (le 4 f.mark.toNat ++ f.load)) = X := by
    rw [hX, headB, show hb f 5 = le 6 f.seq ++ le 3 f.inc ++ le 1 (16 * f.part + f.of) ++ le 1 f.load.length ++ le 4 f.mark.toNat from rfl]
    simp [le]
  have hz : ∀ i, z8 i ++ [0] = z8 (i + 1) := fun i => by simp [z8, List.replicate_succ']
  obtain ⟨bk, hbk⟩ : ∃ bk, bk = [Blk.cells false [AV.int IntKind.i64 f.seq, AV.int IntKind.i64 f.inc, AV.int IntKind.i64 f.part, AV.int IntKind.i64 f.of, u32 f.mark, AV.sl Tok.any (ofBytes f.load)]] := ⟨_, rfl⟩
  rw [← hbk]
  refine awC_loopW (fun k env s => ∃ i, k + i = 45 - f.load.length ∧ env 4 = .sl (.own st.toks.length) (ofBytes (X ++ z8 i)) ∧ s = ⟨st.heap ++ bk, st.toks ++ [(X.length + i, 1)]⟩) (45 - f.load.length) ?_ ?_
  · refine ⟨0, rfl, ?_⟩
    simp [z8, hX2, hXl]
  rintro k env s ⟨i, hk, e4, rfl⟩
  by_cases hi : X.length + i < 60
  · have hi' : (X.length : Int) + i < 60 := by omega
    simp (disch := first | omega | (simp only [List.length_take, List.length_drop, List.length_append, List.length_cons, List.length_nil, List.length_map]; omega)) [IntWalk.i64_in, IntWalk.i64_quo, e4, hi']
    refine ⟨by omega, k - 1, by omega, i + 1, by omega, ?_, by omega⟩
    rw [show [AV.int .u8 0] = ofBytes [0] from rfl, ofBytes_append, List.append_assoc, hz]
  · have hi' : ¬ (X.length : Int) + i < 60 := by omega
    have hB : X ++ z8 i = bodyB f := by
      rw [hX, bodyB, show i = 45 - f.load.length by omega]
    have hbl := bodyB_length hmay.2.2.2.2.2.2.2.2.2
    rw [hB] at e4
    simp (disch := first | omega | (simp only [List.length_take, List.length_drop, List.length_append, List.length_cons, List.length_nil, List.length_map]; omega)) [IntWalk.i64_in, IntWalk.i64_quo, e4, hi', hbl]
noncomputable def R1 : Orc := Q9.add 14 (tab (fun x : Int × Int × Int × Int × BitVec 32 × List UInt8 => [.agg [.int .i64 x.1, .int .i64 x.2.1, .int .i64 x.2.2.1, .int .i64 x.2.2.2.1, u32 x.2.2.2.2.1, .sl .any (ofBytes x.2.2.2.2.2)]]) (fun x => bytesA ⟨x.1, x.2.1, x.2.2.1, x.2.2.2.1, x.2.2.2.2.1, x.2.2.2.2.2⟩) fun x => True)
theorem R1s : OSound Try.prog R1 := Q9s.tab fun x h st => bytes4_spec ⟨x.1, x.2.1, x.2.2.1, x.2.2.2.1, x.2.2.2.2.1, x.2.2.2.2.2⟩ st
@[simp] theorem R1_14 (a : Int) (b : Int) (c : Int) (d : Int) (e : BitVec 32) (l : List UInt8) : R1 14 [.agg [.int .i64 a, .int .i64 b, .int .i64 c, .int .i64 d, u32 e, .sl .any (ofBytes l)]] = some (bytesA ⟨a, b, c, d, e, l⟩) := by
  rw [R1, Orc.add_same]
  exact tab_eq (fun x y h => by simp at h; simp [h]) (x := (a, b, c, d, e, l)) trivial
@[simp] theorem R1_o (f : Nat) (args : List AV) (h : f ≠ 14) : R1 f args = Q9 f args := by
  rw [R1, Orc.add_other _ _ _ _ _ h]

theorem read4_spec (b : List UInt8) (hb : b.length ≤ 1048576) (st : St) : ASpec Try.prog 16 [.sl .any (ofBytes b)] st fun v st' => v = readA b ∧ st' = st := by
  refine pure_of (R := fun v => v = _) R1s F16 rfl ?_
  by_cases ho : okB b
  case neg =>
    by_cases h4 : 4 ≤ b.length ∧ crcB (crc (b.take (b.length - 4))) = b.drop (b.length - 4)
    · have hn : ¬ b.length = 64 := fun h => ho ⟨h, by simpa [h] using h4.2⟩
      have hn' : ¬ (b.length : Int) = 64 := by omega
      simp (disch := first | omega | (simp only [List.length_take, List.length_drop, List.length_append, List.length_cons, List.length_nil, List.length_map]; omega)) [IntWalk.i64_in, IntWalk.i64_quo, c16, openA, h4, hn, hn']
      simp [readA, ho, zF]
    · simp (disch := first | omega | (simp only [List.length_take, List.length_drop, List.length_append, List.length_cons, List.length_nil, List.length_map]; omega)) [IntWalk.i64_in, IntWalk.i64_quo, c16, openA, h4]
      simp [readA, ho, zF]
  have hA : openA b = .tup [.sl .any (ofBytes (b.take 60)), .bool true] := by
    rw [openA, if_pos (by rw [ho.1]; exact ⟨by decide, ho.2⟩), ho.1]
  have hlen : b.length = 64 := ho.1
  have hlen' : (b.length : Int) = 64 := by omega
  obtain ⟨l, hl⟩ : ∃ l, l = b.take 60 := ⟨_, rfl⟩
  have hll : l.length = 60 := by rw [hl]; simp; omega
  rw [← hl] at hA
  obtain ⟨n, hx⟩ : ∃ n, l[10]'(by omega) = n := ⟨_, rfl⟩
  obtain ⟨m, hy⟩ : ∃ m, l[9]'(by omega) = m := ⟨_, rfl⟩
  have hbx : byt l 10 = n.toNat := by simp [byt, hll, hx]
  have hby : byt l 9 = m.toNat := by simp [byt, hll, hy]
  by_cases hn : n.toNat ≤ 45
  case neg =>
    have hn1 : 45 < (n.toNat : Int) := by omega
    simp (disch := first | omega | (simp only [List.length_take, List.length_drop, List.length_append, List.length_cons, List.length_nil, List.length_map]; omega)) [IntWalk.i64_in, IntWalk.i64_quo, c16, hA, hlen, hlen', hll, hx, hn1]
    simp [readA, ← hl, hbx, hn, zF]
  have hn1 : ¬ 45 < (n.toNat : Int) := by omega
  have hm := m.toNat_lt
  have hq1 : binA .quo .none (u8 m) (.int .u8 16) = some (.int .u8 ((m.toNat : Int) / 16)) := by
    show some (AV.int .u8 (IntKind.u8.wrap ((m.toNat : Int).tdiv 16))) = _
    rw [Int.tdiv_eq_ediv_of_nonneg (by omega), IntKind.wrap_u8]
    congr 2
    omega
  have hq2 : binA .rem .none (u8 m) (.int .u8 16) = some (.int .u8 ((m.toNat : Int) % 16)) := by
    show some (AV.int .u8 ((m.toNat : Int).tmod 16)) = _
    rw [Int.tmod_eq_emod_of_nonneg (by omega)]
  have l0 : (l.take 6).length = 6 := by simp; omega
  have l1 : ((l.drop 6).take 3).length = 3 := by simp; omega
  have l2 : ((l.drop 11).take 4).length = 4 := by simp; omega
  have n0 := num_lt (l.take 6)
  have n1 := num_lt ((l.drop 6).take 3)
  have n2 := num_lt ((l.drop 11).take 4)
  rw [l0] at n0
  rw [l1] at n1
  rw [l2] at n2
  simp (disch := first | omega | (simp only [List.length_take, List.length_drop, List.length_append, List.length_cons, List.length_nil, List.length_map]; omega)) [IntWalk.i64_in, IntWalk.i64_quo, c16, hA, hlen, hlen', hll, hx, hn1]
  repeat' first
    | (refine region_static rfl (by decide +kernel) ?_; try simp (disch := first | omega | (simp only [List.length_take, List.length_drop, List.length_append, List.length_cons, List.length_nil, List.length_map]; omega)) [IntWalk.i64_in, IntWalk.i64_quo, hA, hlen, hlen', hll, hx, hy, hn1, hq1, hq2])
    | (refine And.intro (by omega) ?_; try simp (disch := first | omega | (simp only [List.length_take, List.length_drop, List.length_append, List.length_cons, List.length_nil, List.length_map]; omega)) [IntWalk.i64_in, IntWalk.i64_quo, hA, hlen, hlen', hll, hx, hy, hn1, hq1, hq2])
    | (refine guardK_ndec (fun h => ?_) (fun h => ?_) <;> (try simp (disch := first | omega | (simp only [List.length_take, List.length_drop, List.length_append, List.length_cons, List.length_nil, List.length_map]; omega)) [h, IntWalk.i64_in, IntWalk.i64_quo, hA, hlen, hlen', hll, hx, hy, hn1, hq1, hq2]))
    | (refine guardK_dec (fun h => ?_) (fun h => ?_) <;> (try simp (disch := first | omega | (simp only [List.length_take, List.length_drop, List.length_append, List.length_cons, List.length_nil, List.length_map]; omega)) [h, IntWalk.i64_in, IntWalk.i64_quo, hA, hlen, hlen', hll, hx, hy, hn1, hq1, hq2]))
    | (refine guardK_nbeq (fun h => ?_) (fun h => ?_) <;> (try simp (disch := first | omega | (simp only [List.length_take, List.length_drop, List.length_append, List.length_cons, List.length_nil, List.length_map]; omega)) [h, IntWalk.i64_in, IntWalk.i64_quo, hA, hlen, hlen', hll, hx, hy, hn1, hq1, hq2]))
    | (refine guardK_beq (fun h => ?_) (fun h => ?_) <;> (try simp (disch := first | omega | (simp only [List.length_take, List.length_drop, List.length_append, List.length_cons, List.length_nil, List.length_map]; omega)) [h, IntWalk.i64_in, IntWalk.i64_quo, hA, hlen, hlen', hll, hx, hy, hn1, hq1, hq2]))
    | (refine guardK_bne (fun h => ?_) (fun h => ?_) <;> (try simp (disch := first | omega | (simp only [List.length_take, List.length_drop, List.length_append, List.length_cons, List.length_nil, List.length_map]; omega)) [h, IntWalk.i64_in, IntWalk.i64_quo, hA, hlen, hlen', hll, hx, hy, hn1, hq1, hq2]))
    | (refine guardK_not (fun h => ?_) (fun h => ?_) <;> (try simp (disch := first | omega | (simp only [List.length_take, List.length_drop, List.length_append, List.length_cons, List.length_nil, List.length_map]; omega)) [h, IntWalk.i64_in, IntWalk.i64_quo, hA, hlen, hlen', hll, hx, hy, hn1, hq1, hq2]))
    | (refine guardK_split (fun h => ?_) (fun h => ?_) <;> (try simp (disch := first | omega | (simp only [List.length_take, List.length_drop, List.length_append, List.length_cons, List.length_nil, List.length_map]; omega)) [h, IntWalk.i64_in, IntWalk.i64_quo, hA, hlen, hlen', hll, hx, hy, hn1, hq1, hq2]))
    | (refine condK_ndec (fun h => ?_) (fun h => ?_) <;> (try simp (disch := first | omega | (simp only [List.length_take, List.length_drop, List.length_append, List.length_cons, List.length_nil, List.length_map]; omega)) [h, IntWalk.i64_in, IntWalk.i64_quo, hA, hlen, hlen', hll, hx, hy, hn1, hq1, hq2]))
    | (refine condK_dec (fun h => ?_) (fun h => ?_) <;> (try simp (disch := first | omega | (simp only [List.length_take, List.length_drop, List.length_append, List.length_cons, List.length_nil, List.length_map]; omega)) [h, IntWalk.i64_in, IntWalk.i64_quo, hA, hlen, hlen', hll, hx, hy, hn1, hq1, hq2]))
    | (refine condK_nbeq (fun h => ?_) (fun h => ?_) <;> (try simp (disch := first | omega | (simp only [List.length_take, List.length_drop, List.length_append, List.length_cons, List.length_nil, List.length_map]; omega)) [h, IntWalk.i64_in, IntWalk.i64_quo, hA, hlen, hlen', hll, hx, hy, hn1, hq1, hq2]))
    | (refine condK_beq (fun h => ?_) (fun h => ?_) <;> (try simp (disch := first | omega | (simp only [List.length_take, List.length_drop, List.length_append, List.length_cons, List.length_nil, List.length_map]; omega)) [h, IntWalk.i64_in, IntWalk.i64_quo, hA, hlen, hlen', hll, hx, hy, hn1, hq1, hq2]))
    | (refine condK_bne (fun h => ?_) (fun h => ?_) <;> (try simp (disch := first | omega | (simp only [List.length_take, List.length_drop, List.length_append, List.length_cons, List.length_nil, List.length_map]; omega)) [h, IntWalk.i64_in, IntWalk.i64_quo, hA, hlen, hlen', hll, hx, hy, hn1, hq1, hq2]))
    | (refine condK_not (fun h => ?_) (fun h => ?_) <;> (try simp (disch := first | omega | (simp only [List.length_take, List.length_drop, List.length_append, List.length_cons, List.length_nil, List.length_map]; omega)) [h, IntWalk.i64_in, IntWalk.i64_quo, hA, hlen, hlen', hll, hx, hy, hn1, hq1, hq2]))
    | (refine condK_split (fun h => ?_) (fun h => ?_) <;> (try simp (disch := first | omega | (simp only [List.length_take, List.length_drop, List.length_append, List.length_cons, List.length_nil, List.length_map]; omega)) [h, IntWalk.i64_in, IntWalk.i64_quo, hA, hlen, hlen', hll, hx, hy, hn1, hq1, hq2]))
  have hq : ((15 : Int) + n.toNat).toNat - 15 = n.toNat := by omega
  have hF : Fr.mk (num (l.take 6)) (num ((l.drop 6).take 3)) ((m.toNat : Int) / 16) ((m.toNat : Int) % 16) (BitVec.ofNat 32 (num ((l.drop 11).take 4))) ((l.drop 15).take n.toNat) = pF l := by
    simp [pF, hbx, hby]
  have hF' : pF l = Fr.mk (num (l.take 6)) (num ((l.drop 6).take 3)) ((m.toNat : Int) / 16) ((m.toNat : Int) % 16) (BitVec.ofNat 32 (num ((l.drop 11).take 4))) ((l.drop 15).take n.toNat) := hF.symm
  by_cases hM : may (pF l) = true
  · have hB : bytesA (pF l) = .tup [.sl .any (ofBytes (seal_ (bodyB (pF l)))), .int .i64 0] := by rw [bytesA, if_pos hM]
    simp (disch := first | omega | (simp only [List.length_take, List.length_drop, List.length_append, List.length_cons, List.length_nil, List.length_map]; omega)) [IntWalk.i64_in, IntWalk.i64_quo, hq, hF, hB]
    repeat' first
      | (refine region_static rfl (by decide +kernel) ?_; try simp (disch := first | omega | (simp only [List.length_take, List.length_drop, List.length_append, List.length_cons, List.length_nil, List.length_map]; omega)) [IntWalk.i64_in, IntWalk.i64_quo, hq, hF, hB])
      | (refine And.intro (by omega) ?_; try simp (disch := first | omega | (simp only [List.length_take, List.length_drop, List.length_append, List.length_cons, List.length_nil, List.length_map]; omega)) [IntWalk.i64_in, IntWalk.i64_quo, hq, hF, hB])
      | (refine guardK_ndec (fun h => ?_) (fun h => ?_) <;> (try simp (disch := first | omega | (simp only [List.length_take, List.length_drop, List.length_append, List.length_cons, List.length_nil, List.length_map]; omega)) [h, IntWalk.i64_in, IntWalk.i64_quo, hq, hF, hB]))
      | (refine guardK_dec (fun h => ?_) (fun h => ?_) <;> (try simp (disch := first | omega | (simp only [List.length_take, List.length_drop, List.length_append, List.length_cons, List.length_nil, List.length_map]; omega)) [h, IntWalk.i64_in, IntWalk.i64_quo, hq, hF, hB]))
      | (refine guardK_nbeq (fun h => ?_) (fun h => ?_) <;> (try simp (disch := first | omega | (simp only [List.length_take, List.length_drop, List.length_append, List.length_cons, List.length_nil, List.length_map]; omega)) [h, IntWalk.i64_in, IntWalk.i64_quo, hq, hF, hB]))
      | (refine guardK_beq (fun h => ?_) (fun h => ?_) <;> (try simp (disch := first | omega | (simp only [List.length_take, List.length_drop, List.length_append, List.length_cons, List.length_nil, List.length_map]; omega)) [h, IntWalk.i64_in, IntWalk.i64_quo, hq, hF, hB]))
      | (refine guardK_bne (fun h => ?_) (fun h => ?_) <;> (try simp (disch := first | omega | (simp only [List.length_take, List.length_drop, List.length_append, List.length_cons, List.length_nil, List.length_map]; omega)) [h, IntWalk.i64_in, IntWalk.i64_quo, hq, hF, hB]))
      | (refine guardK_not (fun h => ?_) (fun h => ?_) <;> (try simp (disch := first | omega | (simp only [List.length_take, List.length_drop, List.length_append, List.length_cons, List.length_nil, List.length_map]; omega)) [h, IntWalk.i64_in, IntWalk.i64_quo, hq, hF, hB]))
      | (refine guardK_split (fun h => ?_) (fun h => ?_) <;> (try simp (disch := first | omega | (simp only [List.length_take, List.length_drop, List.length_append, List.length_cons, List.length_nil, List.length_map]; omega)) [h, IntWalk.i64_in, IntWalk.i64_quo, hq, hF, hB]))
      | (refine condK_ndec (fun h => ?_) (fun h => ?_) <;> (try simp (disch := first | omega | (simp only [List.length_take, List.length_drop, List.length_append, List.length_cons, List.length_nil, List.length_map]; omega)) [h, IntWalk.i64_in, IntWalk.i64_quo, hq, hF, hB]))
      | (refine condK_dec (fun h => ?_) (fun h => ?_) <;> (try simp (disch := first | omega | (simp only [List.length_take, List.length_drop, List.length_append, List.length_cons, List.length_nil, List.length_map]; omega)) [h, IntWalk.i64_in, IntWalk.i64_quo, hq, hF, hB]))
      | (refine condK_nbeq (fun h => ?_) (fun h => ?_) <;> (try simp (disch := first | omega | (simp only [List.length_take, List.length_drop, List.length_append, List.length_cons, List.length_nil, List.length_map]; omega)) [h, IntWalk.i64_in, IntWalk.i64_quo, hq, hF, hB]))
      | (refine condK_beq (fun h => ?_) (fun h => ?_) <;> (try simp (disch := first | omega | (simp only [List.length_take, List.length_drop, List.length_append, List.length_cons, List.length_nil, List.length_map]; omega)) [h, IntWalk.i64_in, IntWalk.i64_quo, hq, hF, hB]))
      | (refine condK_bne (fun h => ?_) (fun h => ?_) <;> (try simp (disch := first | omega | (simp only [List.length_take, List.length_drop, List.length_append, List.length_cons, List.length_nil, List.length_map]; omega)) [h, IntWalk.i64_in, IntWalk.i64_quo, hq, hF, hB]))
      | (refine condK_not (fun h => ?_) (fun h => ?_) <;> (try simp (disch := first | omega | (simp only [List.length_take, List.length_drop, List.length_append, List.length_cons, List.length_nil, List.length_map]; omega)) [h, IntWalk.i64_in, IntWalk.i64_quo, hq, hF, hB]))
      | (refine condK_split (fun h => ?_) (fun h => ?_) <;> (try simp (disch := first | omega | (simp only [List.length_take, List.length_drop, List.length_append, List.length_cons, List.length_nil, List.length_map]; omega)) [h, IntWalk.i64_in, IntWalk.i64_quo, hq, hF, hB]))
    · rw [readA, if_pos (by rw [← hl, hbx]; exact ⟨ho, hn, hM, by assumption⟩), ← hl, hF']
      simp
    · rw [readA, if_neg (by rw [← hl]; exact fun h => absurd h.2.2.2 (by assumption))]
      simp [zF]
  · have hB : bytesA (pF l) = .tup [.sl .any [], .int .i64 2] := by rw [bytesA, if_neg hM]
    simp (disch := first | omega | (simp only [List.length_take, List.length_drop, List.length_append, List.length_cons, List.length_nil, List.length_map]; omega)) [IntWalk.i64_in, IntWalk.i64_quo, hq, hF, hB]
    rw [readA, if_neg (by rw [← hl]; exact fun h => hM h.2.2.1)]
    simp [zF]
theorem great_spec (f : Fr) (st : St) : ASpec Try.prog 12 [frA f] st fun v st' => v = .bool (decide (1000 < f.load.length)) ∧ st' = st := by
  refine pure_of (R := fun v => v = _) R1s F12 rfl ?_
  simp (disch := first | omega | (simp only [List.length_take, List.length_drop, List.length_append, List.length_cons, List.length_nil, List.length_map]; omega)) [IntWalk.i64_in, IntWalk.i64_quo, c12]
  constructor <;> intro h <;> omega
noncomputable def R2 : Orc := R1.add 16 (tab (fun x : List UInt8 => [.sl .any (ofBytes x)]) (fun x => readA x) fun x => x.length ≤ 1048576)
theorem R2s : OSound Try.prog R2 := R1s.tab fun x h st => read4_spec x h st
@[simp] theorem R2_16 (b : List UInt8) (h : b.length ≤ 1048576) : R2 16 [.sl .any (ofBytes b)] = some (readA b) := by
  rw [R2, Orc.add_same]
  exact tab_eq (fun x y h => by simp at h; simp [h]) (x := (b)) h
@[simp] theorem R2_o (f : Nat) (args : List AV) (h : f ≠ 16) : R2 f args = R1 f args := by
  rw [R2, Orc.add_other _ _ _ _ _ h]
noncomputable def R3 : Orc := R2.add 12 (tab (fun x : Int × Int × Int × Int × BitVec 32 × List UInt8 => [.agg [.int .i64 x.1, .int .i64 x.2.1, .int .i64 x.2.2.1, .int .i64 x.2.2.2.1, u32 x.2.2.2.2.1, .sl .any (ofBytes x.2.2.2.2.2)]]) (fun x => .bool (decide (1000 < x.2.2.2.2.2.length))) fun x => True)
theorem R3s : OSound Try.prog R3 := R2s.tab fun x h st => great_spec ⟨x.1, x.2.1, x.2.2.1, x.2.2.2.1, x.2.2.2.2.1, x.2.2.2.2.2⟩ st
@[simp] theorem R3_12 (a : Int) (b : Int) (c : Int) (d : Int) (e : BitVec 32) (l : List UInt8) : R3 12 [.agg [.int .i64 a, .int .i64 b, .int .i64 c, .int .i64 d, u32 e, .sl .any (ofBytes l)]] = some (.bool (decide (1000 < l.length))) := by
  rw [R3, Orc.add_same]
  exact tab_eq (fun x y h => by simp at h; simp [h]) (x := (a, b, c, d, e, l)) trivial
@[simp] theorem R3_o (f : Nat) (args : List AV) (h : f ≠ 12) : R3 f args = R2 f args := by
  rw [R3, Orc.add_other _ _ _ _ _ h]
noncomputable def R4 : Orc := R3.add 15 (tab (fun x : List UInt8 => [.sl .any (ofBytes x)]) (fun x => readA x) fun x => x.length ≤ 1048576)
theorem R4s : OSound Try.prog R4 := R3s.tab fun x h st => read_spec x h st
@[simp] theorem R4_15 (b : List UInt8) (h : b.length ≤ 1048576) : R4 15 [.sl .any (ofBytes b)] = some (readA b) := by
  rw [R4, Orc.add_same]
  exact tab_eq (fun x y h => by simp at h; simp [h]) (x := (b)) h
@[simp] theorem R4_o (f : Nat) (args : List AV) (h : f ≠ 15) : R4 f args = R3 f args := by
  rw [R4, Orc.add_other _ _ _ _ _ h]

theorem fbytes_spec (f g : Fr) (b : List UInt8) (st : St) : ASpec Try.prog 5 [frA f, frA g, .sl .any (ofBytes b)] st fun v st' => v = .bool true ∧ st' = st := by
  refine pure_of (R := fun v => v = _) R4s F5 rfl ?_
  by_cases h1 : 1000 < f.load.length
  · simp (disch := first | omega | (simp only [List.length_take, List.length_drop, List.length_append, List.length_cons, List.length_nil, List.length_map]; omega)) [IntWalk.i64_in, IntWalk.i64_quo, c5, h1]
  by_cases h2 : 1000 < g.load.length
  · simp (disch := first | omega | (simp only [List.length_take, List.length_drop, List.length_append, List.length_cons, List.length_nil, List.length_map]; omega)) [IntWalk.i64_in, IntWalk.i64_quo, c5, h1, h2]
  by_cases h3 : 1000 < b.length
  · have h3' : (1000 : Int) < b.length := by omega
    simp (disch := first | omega | (simp only [List.length_take, List.length_drop, List.length_append, List.length_cons, List.length_nil, List.length_map]; omega)) [IntWalk.i64_in, IntWalk.i64_quo, c5, h1, h2, h3']
  have h3' : ¬ (1000 : Int) < b.length := by omega
  have key : ∃ (y : List UInt8) (e : Int) (r : Fr) (h : Int), bytesA f = .tup [.sl .any (ofBytes y), .int .i64 e] ∧ readA b = .tup [frA r, .int .i64 h] := by
    have k1 : ∃ (y : List UInt8) (e : Int), bytesA f = .tup [.sl .any (ofBytes y), .int .i64 e] := by
      unfold bytesA; split
      · exact ⟨_, _, rfl⟩
      · exact ⟨[], _, rfl⟩
    have k2 : ∃ (r : Fr) (h : Int), readA b = .tup [frA r, .int .i64 h] := by
      unfold readA; split <;> exact ⟨_, _, rfl⟩
    obtain ⟨y, e, k1⟩ := k1
    obtain ⟨r, h, k2⟩ := k2
    exact ⟨y, e, r, h, k1, k2⟩
  obtain ⟨y, e, r, h, k1, k2⟩ := key
  have hs : sameF r r = true := by simp [sameF]
  simp only [frA] at k2
  simp (disch := first | omega | (simp only [List.length_take, List.length_drop, List.length_append, List.length_cons, List.length_nil, List.length_map]; omega)) [IntWalk.i64_in, IntWalk.i64_quo, c5, h1, h2, h3', k1, k2, hs]
  repeat' first
    | (refine region_static rfl (by decide +kernel) ?_; try simp (disch := first | omega | (simp only [List.length_take, List.length_drop, List.length_append, List.length_cons, List.length_nil, List.length_map]; omega)) [IntWalk.i64_in, IntWalk.i64_quo, h1, h2, h3', k1, k2, hs])
    | (refine And.intro (by omega) ?_; try simp (disch := first | omega | (simp only [List.length_take, List.length_drop, List.length_append, List.length_cons, List.length_nil, List.length_map]; omega)) [IntWalk.i64_in, IntWalk.i64_quo, h1, h2, h3', k1, k2, hs])
    | (refine guardK_ndec (fun h => ?_) (fun h => ?_) <;> (try simp (disch := first | omega | (simp only [List.length_take, List.length_drop, List.length_append, List.length_cons, List.length_nil, List.length_map]; omega)) [h, IntWalk.i64_in, IntWalk.i64_quo, h1, h2, h3', k1, k2, hs]))
    | (refine guardK_dec (fun h => ?_) (fun h => ?_) <;> (try simp (disch := first | omega | (simp only [List.length_take, List.length_drop, List.length_append, List.length_cons, List.length_nil, List.length_map]; omega)) [h, IntWalk.i64_in, IntWalk.i64_quo, h1, h2, h3', k1, k2, hs]))
    | (refine guardK_nbeq (fun h => ?_) (fun h => ?_) <;> (try simp (disch := first | omega | (simp only [List.length_take, List.length_drop, List.length_append, List.length_cons, List.length_nil, List.length_map]; omega)) [h, IntWalk.i64_in, IntWalk.i64_quo, h1, h2, h3', k1, k2, hs]))
    | (refine guardK_beq (fun h => ?_) (fun h => ?_) <;> (try simp (disch := first | omega | (simp only [List.length_take, List.length_drop, List.length_append, List.length_cons, List.length_nil, List.length_map]; omega)) [h, IntWalk.i64_in, IntWalk.i64_quo, h1, h2, h3', k1, k2, hs]))
    | (refine guardK_bne (fun h => ?_) (fun h => ?_) <;> (try simp (disch := first | omega | (simp only [List.length_take, List.length_drop, List.length_append, List.length_cons, List.length_nil, List.length_map]; omega)) [h, IntWalk.i64_in, IntWalk.i64_quo, h1, h2, h3', k1, k2, hs]))
    | (refine guardK_not (fun h => ?_) (fun h => ?_) <;> (try simp (disch := first | omega | (simp only [List.length_take, List.length_drop, List.length_append, List.length_cons, List.length_nil, List.length_map]; omega)) [h, IntWalk.i64_in, IntWalk.i64_quo, h1, h2, h3', k1, k2, hs]))
    | (refine guardK_split (fun h => ?_) (fun h => ?_) <;> (try simp (disch := first | omega | (simp only [List.length_take, List.length_drop, List.length_append, List.length_cons, List.length_nil, List.length_map]; omega)) [h, IntWalk.i64_in, IntWalk.i64_quo, h1, h2, h3', k1, k2, hs]))
    | (refine condK_ndec (fun h => ?_) (fun h => ?_) <;> (try simp (disch := first | omega | (simp only [List.length_take, List.length_drop, List.length_append, List.length_cons, List.length_nil, List.length_map]; omega)) [h, IntWalk.i64_in, IntWalk.i64_quo, h1, h2, h3', k1, k2, hs]))
    | (refine condK_dec (fun h => ?_) (fun h => ?_) <;> (try simp (disch := first | omega | (simp only [List.length_take, List.length_drop, List.length_append, List.length_cons, List.length_nil, List.length_map]; omega)) [h, IntWalk.i64_in, IntWalk.i64_quo, h1, h2, h3', k1, k2, hs]))
    | (refine condK_nbeq (fun h => ?_) (fun h => ?_) <;> (try simp (disch := first | omega | (simp only [List.length_take, List.length_drop, List.length_append, List.length_cons, List.length_nil, List.length_map]; omega)) [h, IntWalk.i64_in, IntWalk.i64_quo, h1, h2, h3', k1, k2, hs]))
    | (refine condK_beq (fun h => ?_) (fun h => ?_) <;> (try simp (disch := first | omega | (simp only [List.length_take, List.length_drop, List.length_append, List.length_cons, List.length_nil, List.length_map]; omega)) [h, IntWalk.i64_in, IntWalk.i64_quo, h1, h2, h3', k1, k2, hs]))
    | (refine condK_bne (fun h => ?_) (fun h => ?_) <;> (try simp (disch := first | omega | (simp only [List.length_take, List.length_drop, List.length_append, List.length_cons, List.length_nil, List.length_map]; omega)) [h, IntWalk.i64_in, IntWalk.i64_quo, h1, h2, h3', k1, k2, hs]))
    | (refine condK_not (fun h => ?_) (fun h => ?_) <;> (try simp (disch := first | omega | (simp only [List.length_take, List.length_drop, List.length_append, List.length_cons, List.length_nil, List.length_map]; omega)) [h, IntWalk.i64_in, IntWalk.i64_quo, h1, h2, h3', k1, k2, hs]))
    | (refine condK_split (fun h => ?_) (fun h => ?_) <;> (try simp (disch := first | omega | (simp only [List.length_take, List.length_drop, List.length_append, List.length_cons, List.length_nil, List.length_map]; omega)) [h, IntWalk.i64_in, IntWalk.i64_quo, h1, h2, h3', k1, k2, hs]))
  all_goals trace_state
end Go.Proofs.Ytghodhkcjjjjnaa

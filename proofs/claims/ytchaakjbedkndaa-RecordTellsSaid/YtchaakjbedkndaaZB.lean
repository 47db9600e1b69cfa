/- Records: what the reference says may be. -/
import Derived.Test.YtchaakjbedkndaaZA
set_option linter.all false
namespace Go.Proofs.Ytchaakjbedkndaa
open Go.Am

noncomputable def A13 : Orc := A12.add 11 (tab (fun x : Int × Int × Int × Int × Bool × List Wr × Int × Int × Int × Int × Int × Int × Int × Int × Int × Int × Bool × List Wr × Int × Int × Int × Int × Int × Int => [.agg [.int .i8 x.1, .int .i64 x.2.1, .int .i64 x.2.2.1, .int .i64 x.2.2.2.1, .bool x.2.2.2.2.1, .sl .any (wrs x.2.2.2.2.2.1), .int .i64 x.2.2.2.2.2.2.1, .int .i64 x.2.2.2.2.2.2.2.1, .int .i64 x.2.2.2.2.2.2.2.2.1, .int .i64 x.2.2.2.2.2.2.2.2.2.1, .int .i64 x.2.2.2.2.2.2.2.2.2.2.1, .int .i64 x.2.2.2.2.2.2.2.2.2.2.2.1], .agg [.int .i8 x.2.2.2.2.2.2.2.2.2.2.2.2.1, .int .i64 x.2.2.2.2.2.2.2.2.2.2.2.2.2.1, .int .i64 x.2.2.2.2.2.2.2.2.2.2.2.2.2.2.1, .int .i64 x.2.2.2.2.2.2.2.2.2.2.2.2.2.2.2.1, .bool x.2.2.2.2.2.2.2.2.2.2.2.2.2.2.2.2.1, .sl .any (wrs x.2.2.2.2.2.2.2.2.2.2.2.2.2.2.2.2.2.1), .int .i64 x.2.2.2.2.2.2.2.2.2.2.2.2.2.2.2.2.2.2.1, .int .i64 x.2.2.2.2.2.2.2.2.2.2.2.2.2.2.2.2.2.2.2.1, .int .i64 x.2.2.2.2.2.2.2.2.2.2.2.2.2.2.2.2.2.2.2.2.1, .int .i64 x.2.2.2.2.2.2.2.2.2.2.2.2.2.2.2.2.2.2.2.2.2.1, .int .i64 x.2.2.2.2.2.2.2.2.2.2.2.2.2.2.2.2.2.2.2.2.2.2.1, .int .i64 x.2.2.2.2.2.2.2.2.2.2.2.2.2.2.2.2.2.2.2.2.2.2.2]]) (fun x => .bool (decide (Rc.mk x.1 ⟨x.2.1, x.2.2.1, x.2.2.2.1⟩ x.2.2.2.2.1 x.2.2.2.2.2.1 x.2.2.2.2.2.2.1 x.2.2.2.2.2.2.2.1 x.2.2.2.2.2.2.2.2.1 x.2.2.2.2.2.2.2.2.2.1 x.2.2.2.2.2.2.2.2.2.2.1 x.2.2.2.2.2.2.2.2.2.2.2.1 = Rc.mk x.2.2.2.2.2.2.2.2.2.2.2.2.1 ⟨x.2.2.2.2.2.2.2.2.2.2.2.2.2.1, x.2.2.2.2.2.2.2.2.2.2.2.2.2.2.1, x.2.2.2.2.2.2.2.2.2.2.2.2.2.2.2.1⟩ x.2.2.2.2.2.2.2.2.2.2.2.2.2.2.2.2.1 x.2.2.2.2.2.2.2.2.2.2.2.2.2.2.2.2.2.1 x.2.2.2.2.2.2.2.2.2.2.2.2.2.2.2.2.2.2.1 x.2.2.2.2.2.2.2.2.2.2.2.2.2.2.2.2.2.2.2.1 x.2.2.2.2.2.2.2.2.2.2.2.2.2.2.2.2.2.2.2.2.1 x.2.2.2.2.2.2.2.2.2.2.2.2.2.2.2.2.2.2.2.2.2.1 x.2.2.2.2.2.2.2.2.2.2.2.2.2.2.2.2.2.2.2.2.2.2.1 x.2.2.2.2.2.2.2.2.2.2.2.2.2.2.2.2.2.2.2.2.2.2.2))) fun x => x.2.2.2.2.2.1.length ≤ 1048576)
theorem A13s : OSound Try.prog A13 := A12s.tab fun x h st => same_spec ⟨x.1, ⟨x.2.1, x.2.2.1, x.2.2.2.1⟩, x.2.2.2.2.1, x.2.2.2.2.2.1, x.2.2.2.2.2.2.1, x.2.2.2.2.2.2.2.1, x.2.2.2.2.2.2.2.2.1, x.2.2.2.2.2.2.2.2.2.1, x.2.2.2.2.2.2.2.2.2.2.1, x.2.2.2.2.2.2.2.2.2.2.2.1⟩ ⟨x.2.2.2.2.2.2.2.2.2.2.2.2.1, ⟨x.2.2.2.2.2.2.2.2.2.2.2.2.2.1, x.2.2.2.2.2.2.2.2.2.2.2.2.2.2.1, x.2.2.2.2.2.2.2.2.2.2.2.2.2.2.2.1⟩, x.2.2.2.2.2.2.2.2.2.2.2.2.2.2.2.2.1, x.2.2.2.2.2.2.2.2.2.2.2.2.2.2.2.2.2.1, x.2.2.2.2.2.2.2.2.2.2.2.2.2.2.2.2.2.2.1, x.2.2.2.2.2.2.2.2.2.2.2.2.2.2.2.2.2.2.2.1, x.2.2.2.2.2.2.2.2.2.2.2.2.2.2.2.2.2.2.2.2.1, x.2.2.2.2.2.2.2.2.2.2.2.2.2.2.2.2.2.2.2.2.2.1, x.2.2.2.2.2.2.2.2.2.2.2.2.2.2.2.2.2.2.2.2.2.2.1, x.2.2.2.2.2.2.2.2.2.2.2.2.2.2.2.2.2.2.2.2.2.2.2⟩ h st
@[simp] theorem A13_11 (a : Int) (b : Int) (c : Int) (d : Int) (e : Bool) (f : List Wr) (g : Int) (h' : Int) (i : Int) (j : Int) (k : Int) (l : Int) (a' : Int) (b' : Int) (c' : Int) (d' : Int) (e' : Bool) (f' : List Wr) (g' : Int) (h'' : Int) (i' : Int) (j' : Int) (k' : Int) (l' : Int) (h : f.length ≤ 1048576) : A13 11 [.agg [.int .i8 a, .int .i64 b, .int .i64 c, .int .i64 d, .bool e, .sl .any (wrs f), .int .i64 g, .int .i64 h', .int .i64 i, .int .i64 j, .int .i64 k, .int .i64 l], .agg [.int .i8 a', .int .i64 b', .int .i64 c', .int .i64 d', .bool e', .sl .any (wrs f'), .int .i64 g', .int .i64 h'', .int .i64 i', .int .i64 j', .int .i64 k', .int .i64 l']] = some (.bool (decide (Rc.mk a ⟨b, c, d⟩ e f g h' i j k l = Rc.mk a' ⟨b', c', d'⟩ e' f' g' h'' i' j' k' l'))) := by
  rw [A13, Orc.add_same]
  exact tab_eq (fun x y h => by simp at h; simp [h]) (x := (a, b, c, d, e, f, g, h', i, j, k, l, a', b', c', d', e', f', g', h'', i', j', k', l')) h
@[simp] theorem A13_o (f : Nat) (args : List AV) (h : f ≠ 11) : A13 f args = A12 f args := by
  rw [A13, Orc.add_other _ _ _ _ _ h]
noncomputable def A14 : Orc := A13.add 24 (tab (fun x : Int × Int × Int × Int × Bool × List Wr × Int × Int × Int × Int × Int × Int × Int × Int × Int × Int × Bool × List Wr × Int × Int × Int × Int × Int × Int => [.agg [.int .i8 x.1, .int .i64 x.2.1, .int .i64 x.2.2.1, .int .i64 x.2.2.2.1, .bool x.2.2.2.2.1, .sl .any (wrs x.2.2.2.2.2.1), .int .i64 x.2.2.2.2.2.2.1, .int .i64 x.2.2.2.2.2.2.2.1, .int .i64 x.2.2.2.2.2.2.2.2.1, .int .i64 x.2.2.2.2.2.2.2.2.2.1, .int .i64 x.2.2.2.2.2.2.2.2.2.2.1, .int .i64 x.2.2.2.2.2.2.2.2.2.2.2.1], .agg [.int .i8 x.2.2.2.2.2.2.2.2.2.2.2.2.1, .int .i64 x.2.2.2.2.2.2.2.2.2.2.2.2.2.1, .int .i64 x.2.2.2.2.2.2.2.2.2.2.2.2.2.2.1, .int .i64 x.2.2.2.2.2.2.2.2.2.2.2.2.2.2.2.1, .bool x.2.2.2.2.2.2.2.2.2.2.2.2.2.2.2.2.1, .sl .any (wrs x.2.2.2.2.2.2.2.2.2.2.2.2.2.2.2.2.2.1), .int .i64 x.2.2.2.2.2.2.2.2.2.2.2.2.2.2.2.2.2.2.1, .int .i64 x.2.2.2.2.2.2.2.2.2.2.2.2.2.2.2.2.2.2.2.1, .int .i64 x.2.2.2.2.2.2.2.2.2.2.2.2.2.2.2.2.2.2.2.2.1, .int .i64 x.2.2.2.2.2.2.2.2.2.2.2.2.2.2.2.2.2.2.2.2.2.1, .int .i64 x.2.2.2.2.2.2.2.2.2.2.2.2.2.2.2.2.2.2.2.2.2.2.1, .int .i64 x.2.2.2.2.2.2.2.2.2.2.2.2.2.2.2.2.2.2.2.2.2.2.2]]) (fun x => .bool (decide (Rc.mk x.1 ⟨x.2.1, x.2.2.1, x.2.2.2.1⟩ x.2.2.2.2.1 x.2.2.2.2.2.1 x.2.2.2.2.2.2.1 x.2.2.2.2.2.2.2.1 x.2.2.2.2.2.2.2.2.1 x.2.2.2.2.2.2.2.2.2.1 x.2.2.2.2.2.2.2.2.2.2.1 x.2.2.2.2.2.2.2.2.2.2.2.1 = Rc.mk x.2.2.2.2.2.2.2.2.2.2.2.2.1 ⟨x.2.2.2.2.2.2.2.2.2.2.2.2.2.1, x.2.2.2.2.2.2.2.2.2.2.2.2.2.2.1, x.2.2.2.2.2.2.2.2.2.2.2.2.2.2.2.1⟩ x.2.2.2.2.2.2.2.2.2.2.2.2.2.2.2.2.1 x.2.2.2.2.2.2.2.2.2.2.2.2.2.2.2.2.2.1 x.2.2.2.2.2.2.2.2.2.2.2.2.2.2.2.2.2.2.1 x.2.2.2.2.2.2.2.2.2.2.2.2.2.2.2.2.2.2.2.1 x.2.2.2.2.2.2.2.2.2.2.2.2.2.2.2.2.2.2.2.2.1 x.2.2.2.2.2.2.2.2.2.2.2.2.2.2.2.2.2.2.2.2.2.1 x.2.2.2.2.2.2.2.2.2.2.2.2.2.2.2.2.2.2.2.2.2.2.1 x.2.2.2.2.2.2.2.2.2.2.2.2.2.2.2.2.2.2.2.2.2.2.2))) fun x => x.2.2.2.2.2.1.length ≤ 1048576)
theorem A14s : OSound Try.prog A14 := A13s.tab fun x h st => rsame_spec ⟨x.1, ⟨x.2.1, x.2.2.1, x.2.2.2.1⟩, x.2.2.2.2.1, x.2.2.2.2.2.1, x.2.2.2.2.2.2.1, x.2.2.2.2.2.2.2.1, x.2.2.2.2.2.2.2.2.1, x.2.2.2.2.2.2.2.2.2.1, x.2.2.2.2.2.2.2.2.2.2.1, x.2.2.2.2.2.2.2.2.2.2.2.1⟩ ⟨x.2.2.2.2.2.2.2.2.2.2.2.2.1, ⟨x.2.2.2.2.2.2.2.2.2.2.2.2.2.1, x.2.2.2.2.2.2.2.2.2.2.2.2.2.2.1, x.2.2.2.2.2.2.2.2.2.2.2.2.2.2.2.1⟩, x.2.2.2.2.2.2.2.2.2.2.2.2.2.2.2.2.1, x.2.2.2.2.2.2.2.2.2.2.2.2.2.2.2.2.2.1, x.2.2.2.2.2.2.2.2.2.2.2.2.2.2.2.2.2.2.1, x.2.2.2.2.2.2.2.2.2.2.2.2.2.2.2.2.2.2.2.1, x.2.2.2.2.2.2.2.2.2.2.2.2.2.2.2.2.2.2.2.2.1, x.2.2.2.2.2.2.2.2.2.2.2.2.2.2.2.2.2.2.2.2.2.1, x.2.2.2.2.2.2.2.2.2.2.2.2.2.2.2.2.2.2.2.2.2.2.1, x.2.2.2.2.2.2.2.2.2.2.2.2.2.2.2.2.2.2.2.2.2.2.2⟩ h st
@[simp] theorem A14_24 (a : Int) (b : Int) (c : Int) (d : Int) (e : Bool) (f : List Wr) (g : Int) (h' : Int) (i : Int) (j : Int) (k : Int) (l : Int) (a' : Int) (b' : Int) (c' : Int) (d' : Int) (e' : Bool) (f' : List Wr) (g' : Int) (h'' : Int) (i' : Int) (j' : Int) (k' : Int) (l' : Int) (h : f.length ≤ 1048576) : A14 24 [.agg [.int .i8 a, .int .i64 b, .int .i64 c, .int .i64 d, .bool e, .sl .any (wrs f), .int .i64 g, .int .i64 h', .int .i64 i, .int .i64 j, .int .i64 k, .int .i64 l], .agg [.int .i8 a', .int .i64 b', .int .i64 c', .int .i64 d', .bool e', .sl .any (wrs f'), .int .i64 g', .int .i64 h'', .int .i64 i', .int .i64 j', .int .i64 k', .int .i64 l']] = some (.bool (decide (Rc.mk a ⟨b, c, d⟩ e f g h' i j k l = Rc.mk a' ⟨b', c', d'⟩ e' f' g' h'' i' j' k' l'))) := by
  rw [A14, Orc.add_same]
  exact tab_eq (fun x y h => by simp at h; simp [h]) (x := (a, b, c, d, e, f, g, h', i, j, k, l, a', b', c', d', e', f', g', h'', i', j', k', l')) h
@[simp] theorem A14_o (f : Nat) (args : List AV) (h : f ≠ 24) : A14 f args = A13 f args := by
  rw [A14, Orc.add_other _ _ _ _ _ h]

def andI (a b : Int) : Int := IntKind.i64.wrap ((BitVec.ofInt 64 a &&& BitVec.ofInt 64 b).toNat : Nat)
@[simp high] theorem and_andI (e : EqK) (a b : Int) : binA .and e (.int .i64 a) (.int .i64 b) = some (.int .i64 (andI a b)) := rfl
def given (g t : Int) : Bool := decide (0 ≤ g ∧ g ≤ 255 ∧ 0 ≤ t ∧ t ≤ 255 ∧ andI g t = 0)
theorem given_spec (g t : Int) (st : St) : ASpec Try.prog 41 [.int .i64 g, .int .i64 t] st fun v st' => v = .bool (given g t) ∧ st' = st := by
  refine pure_of (R := fun v => v = _) A14s F41 rfl ?_
  simp (disch := first | omega | (simp only [List.length_take, List.length_drop, List.length_append, List.length_cons, List.length_nil, List.length_map]; omega)) [IntWalk.i64_in, IntWalk.i64_quo, c41]
  repeat' first
    | (refine region_static rfl (by decide +kernel) ?_; try simp (disch := first | omega | (simp only [List.length_take, List.length_drop, List.length_append, List.length_cons, List.length_nil, List.length_map]; omega)) [IntWalk.i64_in, IntWalk.i64_quo])
    | (refine And.intro (by omega) ?_; try simp (disch := first | omega | (simp only [List.length_take, List.length_drop, List.length_append, List.length_cons, List.length_nil, List.length_map]; omega)) [IntWalk.i64_in, IntWalk.i64_quo])
    | (refine guardK_ndec (fun h => ?_) (fun h => ?_) <;> (try simp (disch := first | omega | (simp only [List.length_take, List.length_drop, List.length_append, List.length_cons, List.length_nil, List.length_map]; omega)) [h, IntWalk.i64_in, IntWalk.i64_quo]))
    | (refine guardK_dec (fun h => ?_) (fun h => ?_) <;> (try simp (disch := first | omega | (simp only [List.length_take, List.length_drop, List.length_append, List.length_cons, List.length_nil, List.length_map]; omega)) [h, IntWalk.i64_in, IntWalk.i64_quo]))
    | (refine guardK_nbeq (fun h => ?_) (fun h => ?_) <;> (try simp (disch := first | omega | (simp only [List.length_take, List.length_drop, List.length_append, List.length_cons, List.length_nil, List.length_map]; omega)) [h, IntWalk.i64_in, IntWalk.i64_quo]))
    | (refine guardK_beq (fun h => ?_) (fun h => ?_) <;> (try simp (disch := first | omega | (simp only [List.length_take, List.length_drop, List.length_append, List.length_cons, List.length_nil, List.length_map]; omega)) [h, IntWalk.i64_in, IntWalk.i64_quo]))
    | (refine guardK_bne (fun h => ?_) (fun h => ?_) <;> (try simp (disch := first | omega | (simp only [List.length_take, List.length_drop, List.length_append, List.length_cons, List.length_nil, List.length_map]; omega)) [h, IntWalk.i64_in, IntWalk.i64_quo]))
    | (refine guardK_not (fun h => ?_) (fun h => ?_) <;> (try simp (disch := first | omega | (simp only [List.length_take, List.length_drop, List.length_append, List.length_cons, List.length_nil, List.length_map]; omega)) [h, IntWalk.i64_in, IntWalk.i64_quo]))
    | (refine guardK_split (fun h => ?_) (fun h => ?_) <;> (try simp (disch := first | omega | (simp only [List.length_take, List.length_drop, List.length_append, List.length_cons, List.length_nil, List.length_map]; omega)) [h, IntWalk.i64_in, IntWalk.i64_quo]))
    | (refine condK_ndec (fun h => ?_) (fun h => ?_) <;> (try simp (disch := first | omega | (simp only [List.length_take, List.length_drop, List.length_append, List.length_cons, List.length_nil, List.length_map]; omega)) [h, IntWalk.i64_in, IntWalk.i64_quo]))
    | (refine condK_dec (fun h => ?_) (fun h => ?_) <;> (try simp (disch := first | omega | (simp only [List.length_take, List.length_drop, List.length_append, List.length_cons, List.length_nil, List.length_map]; omega)) [h, IntWalk.i64_in, IntWalk.i64_quo]))
    | (refine condK_nbeq (fun h => ?_) (fun h => ?_) <;> (try simp (disch := first | omega | (simp only [List.length_take, List.length_drop, List.length_append, List.length_cons, List.length_nil, List.length_map]; omega)) [h, IntWalk.i64_in, IntWalk.i64_quo]))
    | (refine condK_beq (fun h => ?_) (fun h => ?_) <;> (try simp (disch := first | omega | (simp only [List.length_take, List.length_drop, List.length_append, List.length_cons, List.length_nil, List.length_map]; omega)) [h, IntWalk.i64_in, IntWalk.i64_quo]))
    | (refine condK_bne (fun h => ?_) (fun h => ?_) <;> (try simp (disch := first | omega | (simp only [List.length_take, List.length_drop, List.length_append, List.length_cons, List.length_nil, List.length_map]; omega)) [h, IntWalk.i64_in, IntWalk.i64_quo]))
    | (refine condK_not (fun h => ?_) (fun h => ?_) <;> (try simp (disch := first | omega | (simp only [List.length_take, List.length_drop, List.length_append, List.length_cons, List.length_nil, List.length_map]; omega)) [h, IntWalk.i64_in, IntWalk.i64_quo]))
    | (refine condK_split (fun h => ?_) (fun h => ?_) <;> (try simp (disch := first | omega | (simp only [List.length_take, List.length_drop, List.length_append, List.length_cons, List.length_nil, List.length_map]; omega)) [h, IntWalk.i64_in, IntWalk.i64_quo]))
  all_goals (simp [given, *]; try omega)
def shardsOk (n : Int) : Bool := decide (0 < n ∧ andI n 1 = 0 ∧ n < 32)
theorem shards_spec (n : Int) (st : St) : ASpec Try.prog 42 [.int .i64 n] st fun v st' => v = .bool (shardsOk n) ∧ st' = st := by
  refine pure_of (R := fun v => v = _) A14s F42 rfl ?_
  simp (disch := first | omega | (simp only [List.length_take, List.length_drop, List.length_append, List.length_cons, List.length_nil, List.length_map]; omega)) [IntWalk.i64_in, IntWalk.i64_quo, c42]
  repeat' first
    | (refine region_static rfl (by decide +kernel) ?_; try simp (disch := first | omega | (simp only [List.length_take, List.length_drop, List.length_append, List.length_cons, List.length_nil, List.length_map]; omega)) [IntWalk.i64_in, IntWalk.i64_quo])
    | (refine And.intro (by omega) ?_; try simp (disch := first | omega | (simp only [List.length_take, List.length_drop, List.length_append, List.length_cons, List.length_nil, List.length_map]; omega)) [IntWalk.i64_in, IntWalk.i64_quo])
    | (refine guardK_ndec (fun h => ?_) (fun h => ?_) <;> (try simp (disch := first | omega | (simp only [List.length_take, List.length_drop, List.length_append, List.length_cons, List.length_nil, List.length_map]; omega)) [h, IntWalk.i64_in, IntWalk.i64_quo]))
    | (refine guardK_dec (fun h => ?_) (fun h => ?_) <;> (try simp (disch := first | omega | (simp only [List.length_take, List.length_drop, List.length_append, List.length_cons, List.length_nil, List.length_map]; omega)) [h, IntWalk.i64_in, IntWalk.i64_quo]))
    | (refine guardK_nbeq (fun h => ?_) (fun h => ?_) <;> (try simp (disch := first | omega | (simp only [List.length_take, List.length_drop, List.length_append, List.length_cons, List.length_nil, List.length_map]; omega)) [h, IntWalk.i64_in, IntWalk.i64_quo]))
    | (refine guardK_beq (fun h => ?_) (fun h => ?_) <;> (try simp (disch := first | omega | (simp only [List.length_take, List.length_drop, List.length_append, List.length_cons, List.length_nil, List.length_map]; omega)) [h, IntWalk.i64_in, IntWalk.i64_quo]))
    | (refine guardK_bne (fun h => ?_) (fun h => ?_) <;> (try simp (disch := first | omega | (simp only [List.length_take, List.length_drop, List.length_append, List.length_cons, List.length_nil, List.length_map]; omega)) [h, IntWalk.i64_in, IntWalk.i64_quo]))
    | (refine guardK_not (fun h => ?_) (fun h => ?_) <;> (try simp (disch := first | omega | (simp only [List.length_take, List.length_drop, List.length_append, List.length_cons, List.length_nil, List.length_map]; omega)) [h, IntWalk.i64_in, IntWalk.i64_quo]))
    | (refine guardK_split (fun h => ?_) (fun h => ?_) <;> (try simp (disch := first | omega | (simp only [List.length_take, List.length_drop, List.length_append, List.length_cons, List.length_nil, List.length_map]; omega)) [h, IntWalk.i64_in, IntWalk.i64_quo]))
    | (refine condK_ndec (fun h => ?_) (fun h => ?_) <;> (try simp (disch := first | omega | (simp only [List.length_take, List.length_drop, List.length_append, List.length_cons, List.length_nil, List.length_map]; omega)) [h, IntWalk.i64_in, IntWalk.i64_quo]))
    | (refine condK_dec (fun h => ?_) (fun h => ?_) <;> (try simp (disch := first | omega | (simp only [List.length_take, List.length_drop, List.length_append, List.length_cons, List.length_nil, List.length_map]; omega)) [h, IntWalk.i64_in, IntWalk.i64_quo]))
    | (refine condK_nbeq (fun h => ?_) (fun h => ?_) <;> (try simp (disch := first | omega | (simp only [List.length_take, List.length_drop, List.length_append, List.length_cons, List.length_nil, List.length_map]; omega)) [h, IntWalk.i64_in, IntWalk.i64_quo]))
    | (refine condK_beq (fun h => ?_) (fun h => ?_) <;> (try simp (disch := first | omega | (simp only [List.length_take, List.length_drop, List.length_append, List.length_cons, List.length_nil, List.length_map]; omega)) [h, IntWalk.i64_in, IntWalk.i64_quo]))
    | (refine condK_bne (fun h => ?_) (fun h => ?_) <;> (try simp (disch := first | omega | (simp only [List.length_take, List.length_drop, List.length_append, List.length_cons, List.length_nil, List.length_map]; omega)) [h, IntWalk.i64_in, IntWalk.i64_quo]))
    | (refine condK_not (fun h => ?_) (fun h => ?_) <;> (try simp (disch := first | omega | (simp only [List.length_take, List.length_drop, List.length_append, List.length_cons, List.length_nil, List.length_map]; omega)) [h, IntWalk.i64_in, IntWalk.i64_quo]))
    | (refine condK_split (fun h => ?_) (fun h => ?_) <;> (try simp (disch := first | omega | (simp only [List.length_take, List.length_drop, List.length_append, List.length_cons, List.length_nil, List.length_map]; omega)) [h, IntWalk.i64_in, IntWalk.i64_quo]))
  all_goals (simp [shardsOk, *]; try omega)
def changed (s t : Int) : Bool := decide (s = -1 ∧ t = 0 ∨ 0 ≤ s ∧ s < 8 ∧ 1 ≤ t ∧ t ≤ 4)
theorem changed_spec (s t : Int) (st : St) : ASpec Try.prog 43 [.agg [.int .i64 s, .int .i64 t]] st fun v st' => v = .bool (changed s t) ∧ st' = st := by
  refine pure_of (R := fun v => v = _) A14s F43 rfl ?_
  simp (disch := first | omega | (simp only [List.length_take, List.length_drop, List.length_append, List.length_cons, List.length_nil, List.length_map]; omega)) [IntWalk.i64_in, IntWalk.i64_quo, c43]
  repeat' first
    | (refine region_static rfl (by decide +kernel) ?_; try simp (disch := first | omega | (simp only [List.length_take, List.length_drop, List.length_append, List.length_cons, List.length_nil, List.length_map]; omega)) [IntWalk.i64_in, IntWalk.i64_quo])
    | (refine And.intro (by omega) ?_; try simp (disch := first | omega | (simp only [List.length_take, List.length_drop, List.length_append, List.length_cons, List.length_nil, List.length_map]; omega)) [IntWalk.i64_in, IntWalk.i64_quo])
    | (refine guardK_ndec (fun h => ?_) (fun h => ?_) <;> (try simp (disch := first | omega | (simp only [List.length_take, List.length_drop, List.length_append, List.length_cons, List.length_nil, List.length_map]; omega)) [h, IntWalk.i64_in, IntWalk.i64_quo]))
    | (refine guardK_dec (fun h => ?_) (fun h => ?_) <;> (try simp (disch := first | omega | (simp only [List.length_take, List.length_drop, List.length_append, List.length_cons, List.length_nil, List.length_map]; omega)) [h, IntWalk.i64_in, IntWalk.i64_quo]))
    | (refine guardK_nbeq (fun h => ?_) (fun h => ?_) <;> (try simp (disch := first | omega | (simp only [List.length_take, List.length_drop, List.length_append, List.length_cons, List.length_nil, List.length_map]; omega)) [h, IntWalk.i64_in, IntWalk.i64_quo]))
    | (refine guardK_beq (fun h => ?_) (fun h => ?_) <;> (try simp (disch := first | omega | (simp only [List.length_take, List.length_drop, List.length_append, List.length_cons, List.length_nil, List.length_map]; omega)) [h, IntWalk.i64_in, IntWalk.i64_quo]))
    | (refine guardK_bne (fun h => ?_) (fun h => ?_) <;> (try simp (disch := first | omega | (simp only [List.length_take, List.length_drop, List.length_append, List.length_cons, List.length_nil, List.length_map]; omega)) [h, IntWalk.i64_in, IntWalk.i64_quo]))
    | (refine guardK_not (fun h => ?_) (fun h => ?_) <;> (try simp (disch := first | omega | (simp only [List.length_take, List.length_drop, List.length_append, List.length_cons, List.length_nil, List.length_map]; omega)) [h, IntWalk.i64_in, IntWalk.i64_quo]))
    | (refine guardK_split (fun h => ?_) (fun h => ?_) <;> (try simp (disch := first | omega | (simp only [List.length_take, List.length_drop, List.length_append, List.length_cons, List.length_nil, List.length_map]; omega)) [h, IntWalk.i64_in, IntWalk.i64_quo]))
    | (refine condK_ndec (fun h => ?_) (fun h => ?_) <;> (try simp (disch := first | omega | (simp only [List.length_take, List.length_drop, List.length_append, List.length_cons, List.length_nil, List.length_map]; omega)) [h, IntWalk.i64_in, IntWalk.i64_quo]))
    | (refine condK_dec (fun h => ?_) (fun h => ?_) <;> (try simp (disch := first | omega | (simp only [List.length_take, List.length_drop, List.length_append, List.length_cons, List.length_nil, List.length_map]; omega)) [h, IntWalk.i64_in, IntWalk.i64_quo]))
    | (refine condK_nbeq (fun h => ?_) (fun h => ?_) <;> (try simp (disch := first | omega | (simp only [List.length_take, List.length_drop, List.length_append, List.length_cons, List.length_nil, List.length_map]; omega)) [h, IntWalk.i64_in, IntWalk.i64_quo]))
    | (refine condK_beq (fun h => ?_) (fun h => ?_) <;> (try simp (disch := first | omega | (simp only [List.length_take, List.length_drop, List.length_append, List.length_cons, List.length_nil, List.length_map]; omega)) [h, IntWalk.i64_in, IntWalk.i64_quo]))
    | (refine condK_bne (fun h => ?_) (fun h => ?_) <;> (try simp (disch := first | omega | (simp only [List.length_take, List.length_drop, List.length_append, List.length_cons, List.length_nil, List.length_map]; omega)) [h, IntWalk.i64_in, IntWalk.i64_quo]))
    | (refine condK_not (fun h => ?_) (fun h => ?_) <;> (try simp (disch := first | omega | (simp only [List.length_take, List.length_drop, List.length_append, List.length_cons, List.length_nil, List.length_map]; omega)) [h, IntWalk.i64_in, IntWalk.i64_quo]))
    | (refine condK_split (fun h => ?_) (fun h => ?_) <;> (try simp (disch := first | omega | (simp only [List.length_take, List.length_drop, List.length_append, List.length_cons, List.length_nil, List.length_map]; omega)) [h, IntWalk.i64_in, IntWalk.i64_quo]))
  all_goals (simp [changed, *]; try omega)
theorem great_spec (r : Rc) (st : St) : ASpec Try.prog 12 [.agg (rcC r)] st fun v st' => v = .bool (decide (40 < r.ws.length)) ∧ st' = st := by
  refine pure_of (R := fun v => v = _) A14s F12 rfl ?_
  simp (disch := first | omega | (simp only [List.length_take, List.length_drop, List.length_append, List.length_cons, List.length_nil, List.length_map]; omega)) [IntWalk.i64_in, IntWalk.i64_quo, c12]
  constructor <;> intro h <;> omega
theorem flag_spec (b : Bool) (st : St) : ASpec Try.prog 39 [.bool b] st fun v st' => v = u8 (if b then 1 else 0) ∧ st' = st := by
  refine pure_of (R := fun v => v = _) A14s F39 rfl ?_
  cases b
  · simp (disch := first | omega | (simp only [List.length_take, List.length_drop, List.length_append, List.length_cons, List.length_nil, List.length_map]; omega)) [IntWalk.i64_in, IntWalk.i64_quo, c39]
    rfl
  · simp (disch := first | omega | (simp only [List.length_take, List.length_drop, List.length_append, List.length_cons, List.length_nil, List.length_map]; omega)) [IntWalk.i64_in, IntWalk.i64_quo, c39]
    rfl
def fieldsR (r : Rc) : Rc :=
  if r.kind = 1 then ⟨1, r.nm, false, r.ws, 0, 0, 0, 0, 0, 0⟩
  else if r.kind = 2 then ⟨2, r.nm, false, r.ws, r.give, r.take, 0, 0, 0, 0⟩
  else if r.kind = 3 then ⟨3, r.nm, r.yes, [], 0, 0, 0, 0, 0, 0⟩
  else if r.kind = 4 then ⟨4, r.nm, false, [], 0, 0, r.shards, r.stripe, r.to, 0⟩
  else if r.kind = 5 then ⟨5, r.nm, false, [], 0, 0, 0, 0, 0, 0⟩
  else if r.kind = 6 ∨ r.kind = 7 then ⟨r.kind, ⟨0, 0, 0⟩, false, [], 0, 0, 0, 0, 0, r.n⟩
  else ⟨r.kind, ⟨0, 0, 0⟩, false, [], 0, 0, 0, 0, 0, 0⟩
theorem fields_spec (r : Rc) (st : St) : ASpec Try.prog 40 [.agg (rcC r)] st fun v st' => v = .agg (rcC (fieldsR r)) ∧ st' = st := by
  refine pure_of (R := fun v => v = _) A14s F40 rfl ?_
  simp (disch := first | omega | (simp only [List.length_take, List.length_drop, List.length_append, List.length_cons, List.length_nil, List.length_map]; omega)) [IntWalk.i64_in, IntWalk.i64_quo, c40]
  repeat' first
    | (refine region_static rfl (by decide +kernel) ?_; try simp (disch := first | omega | (simp only [List.length_take, List.length_drop, List.length_append, List.length_cons, List.length_nil, List.length_map]; omega)) [IntWalk.i64_in, IntWalk.i64_quo])
    | (refine And.intro (by omega) ?_; try simp (disch := first | omega | (simp only [List.length_take, List.length_drop, List.length_append, List.length_cons, List.length_nil, List.length_map]; omega)) [IntWalk.i64_in, IntWalk.i64_quo])
    | (refine guardK_ndec (fun h => ?_) (fun h => ?_) <;> (try simp (disch := first | omega | (simp only [List.length_take, List.length_drop, List.length_append, List.length_cons, List.length_nil, List.length_map]; omega)) [h, IntWalk.i64_in, IntWalk.i64_quo]))
    | (refine guardK_dec (fun h => ?_) (fun h => ?_) <;> (try simp (disch := first | omega | (simp only [List.length_take, List.length_drop, List.length_append, List.length_cons, List.length_nil, List.length_map]; omega)) [h, IntWalk.i64_in, IntWalk.i64_quo]))
    | (refine guardK_nbeq (fun h => ?_) (fun h => ?_) <;> (try simp (disch := first | omega | (simp only [List.length_take, List.length_drop, List.length_append, List.length_cons, List.length_nil, List.length_map]; omega)) [h, IntWalk.i64_in, IntWalk.i64_quo]))
    | (refine guardK_beq (fun h => ?_) (fun h => ?_) <;> (try simp (disch := first | omega | (simp only [List.length_take, List.length_drop, List.length_append, List.length_cons, List.length_nil, List.length_map]; omega)) [h, IntWalk.i64_in, IntWalk.i64_quo]))
    | (refine guardK_bne (fun h => ?_) (fun h => ?_) <;> (try simp (disch := first | omega | (simp only [List.length_take, List.length_drop, List.length_append, List.length_cons, List.length_nil, List.length_map]; omega)) [h, IntWalk.i64_in, IntWalk.i64_quo]))
    | (refine guardK_not (fun h => ?_) (fun h => ?_) <;> (try simp (disch := first | omega | (simp only [List.length_take, List.length_drop, List.length_append, List.length_cons, List.length_nil, List.length_map]; omega)) [h, IntWalk.i64_in, IntWalk.i64_quo]))
    | (refine guardK_split (fun h => ?_) (fun h => ?_) <;> (try simp (disch := first | omega | (simp only [List.length_take, List.length_drop, List.length_append, List.length_cons, List.length_nil, List.length_map]; omega)) [h, IntWalk.i64_in, IntWalk.i64_quo]))
    | (refine condK_ndec (fun h => ?_) (fun h => ?_) <;> (try simp (disch := first | omega | (simp only [List.length_take, List.length_drop, List.length_append, List.length_cons, List.length_nil, List.length_map]; omega)) [h, IntWalk.i64_in, IntWalk.i64_quo]))
    | (refine condK_dec (fun h => ?_) (fun h => ?_) <;> (try simp (disch := first | omega | (simp only [List.length_take, List.length_drop, List.length_append, List.length_cons, List.length_nil, List.length_map]; omega)) [h, IntWalk.i64_in, IntWalk.i64_quo]))
    | (refine condK_nbeq (fun h => ?_) (fun h => ?_) <;> (try simp (disch := first | omega | (simp only [List.length_take, List.length_drop, List.length_append, List.length_cons, List.length_nil, List.length_map]; omega)) [h, IntWalk.i64_in, IntWalk.i64_quo]))
    | (refine condK_beq (fun h => ?_) (fun h => ?_) <;> (try simp (disch := first | omega | (simp only [List.length_take, List.length_drop, List.length_append, List.length_cons, List.length_nil, List.length_map]; omega)) [h, IntWalk.i64_in, IntWalk.i64_quo]))
    | (refine condK_bne (fun h => ?_) (fun h => ?_) <;> (try simp (disch := first | omega | (simp only [List.length_take, List.length_drop, List.length_append, List.length_cons, List.length_nil, List.length_map]; omega)) [h, IntWalk.i64_in, IntWalk.i64_quo]))
    | (refine condK_not (fun h => ?_) (fun h => ?_) <;> (try simp (disch := first | omega | (simp only [List.length_take, List.length_drop, List.length_append, List.length_cons, List.length_nil, List.length_map]; omega)) [h, IntWalk.i64_in, IntWalk.i64_quo]))
    | (refine condK_split (fun h => ?_) (fun h => ?_) <;> (try simp (disch := first | omega | (simp only [List.length_take, List.length_drop, List.length_append, List.length_cons, List.length_nil, List.length_map]; omega)) [h, IntWalk.i64_in, IntWalk.i64_quo]))
  all_goals (simp [fieldsR, *])
attribute [irreducible] given shardsOk changed
noncomputable def B1 : Orc := A14.add 41 (tab (fun x : Int × Int => [.int .i64 x.1, .int .i64 x.2]) (fun x => .bool (given x.1 x.2)) fun x => True)
theorem B1s : OSound Try.prog B1 := A14s.tab fun x h st => given_spec x.1 x.2 st
@[simp] theorem B1_41 (g : Int) (t : Int) : B1 41 [.int .i64 g, .int .i64 t] = some (.bool (given g t)) := by
  rw [B1, Orc.add_same]
  exact tab_eq (fun x y h => by simp at h; simp [h]) (x := (g, t)) trivial
@[simp] theorem B1_o (f : Nat) (args : List AV) (h : f ≠ 41) : B1 f args = A14 f args := by
  rw [B1, Orc.add_other _ _ _ _ _ h]
noncomputable def B2 : Orc := B1.add 42 (tab (fun x : Int => [.int .i64 x]) (fun x => .bool (shardsOk x)) fun x => True)
theorem B2s : OSound Try.prog B2 := B1s.tab fun x h st => shards_spec x st
@[simp] theorem B2_42 (n : Int) : B2 42 [.int .i64 n] = some (.bool (shardsOk n)) := by
  rw [B2, Orc.add_same]
  exact tab_eq (fun x y h => by simp at h; simp [h]) (x := (n)) trivial
@[simp] theorem B2_o (f : Nat) (args : List AV) (h : f ≠ 42) : B2 f args = B1 f args := by
  rw [B2, Orc.add_other _ _ _ _ _ h]
noncomputable def B3 : Orc := B2.add 43 (tab (fun x : Int × Int => [.agg [.int .i64 x.1, .int .i64 x.2]]) (fun x => .bool (changed x.1 x.2)) fun x => True)
theorem B3s : OSound Try.prog B3 := B2s.tab fun x h st => changed_spec x.1 x.2 st
@[simp] theorem B3_43 (s : Int) (t : Int) : B3 43 [.agg [.int .i64 s, .int .i64 t]] = some (.bool (changed s t)) := by
  rw [B3, Orc.add_same]
  exact tab_eq (fun x y h => by simp at h; simp [h]) (x := (s, t)) trivial
@[simp] theorem B3_o (f : Nat) (args : List AV) (h : f ≠ 43) : B3 f args = B2 f args := by
  rw [B3, Orc.add_other _ _ _ _ _ h]
noncomputable def B4 : Orc := B3.add 12 (tab (fun x : Int × Int × Int × Int × Bool × List Wr × Int × Int × Int × Int × Int × Int => [.agg [.int .i8 x.1, .int .i64 x.2.1, .int .i64 x.2.2.1, .int .i64 x.2.2.2.1, .bool x.2.2.2.2.1, .sl .any (wrs x.2.2.2.2.2.1), .int .i64 x.2.2.2.2.2.2.1, .int .i64 x.2.2.2.2.2.2.2.1, .int .i64 x.2.2.2.2.2.2.2.2.1, .int .i64 x.2.2.2.2.2.2.2.2.2.1, .int .i64 x.2.2.2.2.2.2.2.2.2.2.1, .int .i64 x.2.2.2.2.2.2.2.2.2.2.2]]) (fun x => .bool (decide (40 < x.2.2.2.2.2.1.length))) fun x => True)
theorem B4s : OSound Try.prog B4 := B3s.tab fun x h st => great_spec ⟨x.1, ⟨x.2.1, x.2.2.1, x.2.2.2.1⟩, x.2.2.2.2.1, x.2.2.2.2.2.1, x.2.2.2.2.2.2.1, x.2.2.2.2.2.2.2.1, x.2.2.2.2.2.2.2.2.1, x.2.2.2.2.2.2.2.2.2.1, x.2.2.2.2.2.2.2.2.2.2.1, x.2.2.2.2.2.2.2.2.2.2.2⟩ st
@[simp] theorem B4_12 (a : Int) (b : Int) (c : Int) (d : Int) (e : Bool) (f : List Wr) (g : Int) (h' : Int) (i : Int) (j : Int) (k : Int) (l : Int) : B4 12 [.agg [.int .i8 a, .int .i64 b, .int .i64 c, .int .i64 d, .bool e, .sl .any (wrs f), .int .i64 g, .int .i64 h', .int .i64 i, .int .i64 j, .int .i64 k, .int .i64 l]] = some (.bool (decide (40 < f.length))) := by
  rw [B4, Orc.add_same]
  exact tab_eq (fun x y h => by simp at h; simp [h]) (x := (a, b, c, d, e, f, g, h', i, j, k, l)) trivial
@[simp] theorem B4_o (f : Nat) (args : List AV) (h : f ≠ 12) : B4 f args = B3 f args := by
  rw [B4, Orc.add_other _ _ _ _ _ h]
noncomputable def B5 : Orc := B4.add 39 (tab (fun x : Bool => [.bool x]) (fun x => u8 (if x then 1 else 0)) fun x => True)
theorem B5s : OSound Try.prog B5 := B4s.tab fun x h st => flag_spec x st
@[simp] theorem B5_39 (b : Bool) : B5 39 [.bool b] = some (u8 (if b then 1 else 0)) := by
  rw [B5, Orc.add_same]
  exact tab_eq (fun x y h => by simp at h; simp [h]) (x := (b)) trivial
@[simp] theorem B5_o (f : Nat) (args : List AV) (h : f ≠ 39) : B5 f args = B4 f args := by
  rw [B5, Orc.add_other _ _ _ _ _ h]
noncomputable def B6 : Orc := B5.add 40 (tab (fun x : Int × Int × Int × Int × Bool × List Wr × Int × Int × Int × Int × Int × Int => [.agg [.int .i8 x.1, .int .i64 x.2.1, .int .i64 x.2.2.1, .int .i64 x.2.2.2.1, .bool x.2.2.2.2.1, .sl .any (wrs x.2.2.2.2.2.1), .int .i64 x.2.2.2.2.2.2.1, .int .i64 x.2.2.2.2.2.2.2.1, .int .i64 x.2.2.2.2.2.2.2.2.1, .int .i64 x.2.2.2.2.2.2.2.2.2.1, .int .i64 x.2.2.2.2.2.2.2.2.2.2.1, .int .i64 x.2.2.2.2.2.2.2.2.2.2.2]]) (fun x => .agg (rcC (fieldsR ⟨x.1, ⟨x.2.1, x.2.2.1, x.2.2.2.1⟩, x.2.2.2.2.1, x.2.2.2.2.2.1, x.2.2.2.2.2.2.1, x.2.2.2.2.2.2.2.1, x.2.2.2.2.2.2.2.2.1, x.2.2.2.2.2.2.2.2.2.1, x.2.2.2.2.2.2.2.2.2.2.1, x.2.2.2.2.2.2.2.2.2.2.2⟩))) fun x => True)
theorem B6s : OSound Try.prog B6 := B5s.tab fun x h st => fields_spec ⟨x.1, ⟨x.2.1, x.2.2.1, x.2.2.2.1⟩, x.2.2.2.2.1, x.2.2.2.2.2.1, x.2.2.2.2.2.2.1, x.2.2.2.2.2.2.2.1, x.2.2.2.2.2.2.2.2.1, x.2.2.2.2.2.2.2.2.2.1, x.2.2.2.2.2.2.2.2.2.2.1, x.2.2.2.2.2.2.2.2.2.2.2⟩ st
@[simp] theorem B6_40 (a : Int) (b : Int) (c : Int) (d : Int) (e : Bool) (f : List Wr) (g : Int) (h' : Int) (i : Int) (j : Int) (k : Int) (l : Int) : B6 40 [.agg [.int .i8 a, .int .i64 b, .int .i64 c, .int .i64 d, .bool e, .sl .any (wrs f), .int .i64 g, .int .i64 h', .int .i64 i, .int .i64 j, .int .i64 k, .int .i64 l]] = some (.agg (rcC (fieldsR ⟨a, ⟨b, c, d⟩, e, f, g, h', i, j, k, l⟩))) := by
  rw [B6, Orc.add_same]
  exact tab_eq (fun x y h => by simp at h; simp [h]) (x := (a, b, c, d, e, f, g, h', i, j, k, l)) trivial
@[simp] theorem B6_o (f : Nat) (args : List AV) (h : f ≠ 40) : B6 f args = B5 f args := by
  rw [B6, Orc.add_other _ _ _ _ _ h]

def mayR (r : Rc) : Bool := decide (1 ≤ r.kind ∧ r.kind ≤ 7) && decide (r = fieldsR r) &&
  (if r.kind = 6 then decide (1 ≤ r.n ∧ r.n ≤ 1048577) else if r.kind = 7 then decide (1 ≤ r.n ∧ r.n ≤ 1048576) else named r.nm && written r.ws && given r.give r.take && (if r.kind = 4 then shardsOk r.shards && changed r.stripe r.to else true))
theorem rmay_spec (r : Rc) (hl : r.ws.length ≤ 1048576) (st : St) : ASpec Try.prog 19 [.agg (rcC r)] st fun v st' => v = .bool (mayR r) ∧ st' = st := by
  refine pure_of (R := fun v => v = _) B6s F19 rfl ?_
  by_cases hc : r = fieldsR r
  · have hc' := eq_true hc
    clear hc
    simp (disch := first | omega | (simp only [List.length_take, List.length_drop, List.length_append, List.length_cons, List.length_nil, List.length_map]; omega)) [IntWalk.i64_in, IntWalk.i64_quo, c19, hc']
    repeat' first
      | (refine region_static rfl (by decide +kernel) ?_; try simp (disch := first | omega | (simp only [List.length_take, List.length_drop, List.length_append, List.length_cons, List.length_nil, List.length_map]; omega)) [IntWalk.i64_in, IntWalk.i64_quo, hc'])
      | (refine And.intro (by omega) ?_; try simp (disch := first | omega | (simp only [List.length_take, List.length_drop, List.length_append, List.length_cons, List.length_nil, List.length_map]; omega)) [IntWalk.i64_in, IntWalk.i64_quo, hc'])
      | (refine guardK_ndec (fun h => ?_) (fun h => ?_) <;> (try simp (disch := first | omega | (simp only [List.length_take, List.length_drop, List.length_append, List.length_cons, List.length_nil, List.length_map]; omega)) [h, IntWalk.i64_in, IntWalk.i64_quo, hc']))
      | (refine guardK_dec (fun h => ?_) (fun h => ?_) <;> (try simp (disch := first | omega | (simp only [List.length_take, List.length_drop, List.length_append, List.length_cons, List.length_nil, List.length_map]; omega)) [h, IntWalk.i64_in, IntWalk.i64_quo, hc']))
      | (refine guardK_nbeq (fun h => ?_) (fun h => ?_) <;> (try simp (disch := first | omega | (simp only [List.length_take, List.length_drop, List.length_append, List.length_cons, List.length_nil, List.length_map]; omega)) [h, IntWalk.i64_in, IntWalk.i64_quo, hc']))
      | (refine guardK_beq (fun h => ?_) (fun h => ?_) <;> (try simp (disch := first | omega | (simp only [List.length_take, List.length_drop, List.length_append, List.length_cons, List.length_nil, List.length_map]; omega)) [h, IntWalk.i64_in, IntWalk.i64_quo, hc']))
      | (refine guardK_bne (fun h => ?_) (fun h => ?_) <;> (try simp (disch := first | omega | (simp only [List.length_take, List.length_drop, List.length_append, List.length_cons, List.length_nil, List.length_map]; omega)) [h, IntWalk.i64_in, IntWalk.i64_quo, hc']))
      | (refine guardK_not (fun h => ?_) (fun h => ?_) <;> (try simp (disch := first | omega | (simp only [List.length_take, List.length_drop, List.length_append, List.length_cons, List.length_nil, List.length_map]; omega)) [h, IntWalk.i64_in, IntWalk.i64_quo, hc']))
      | (refine guardK_split (fun h => ?_) (fun h => ?_) <;> (try simp (disch := first | omega | (simp only [List.length_take, List.length_drop, List.length_append, List.length_cons, List.length_nil, List.length_map]; omega)) [h, IntWalk.i64_in, IntWalk.i64_quo, hc']))
      | (refine condK_ndec (fun h => ?_) (fun h => ?_) <;> (try simp (disch := first | omega | (simp only [List.length_take, List.length_drop, List.length_append, List.length_cons, List.length_nil, List.length_map]; omega)) [h, IntWalk.i64_in, IntWalk.i64_quo, hc']))
      | (refine condK_dec (fun h => ?_) (fun h => ?_) <;> (try simp (disch := first | omega | (simp only [List.length_take, List.length_drop, List.length_append, List.length_cons, List.length_nil, List.length_map]; omega)) [h, IntWalk.i64_in, IntWalk.i64_quo, hc']))
      | (refine condK_nbeq (fun h => ?_) (fun h => ?_) <;> (try simp (disch := first | omega | (simp only [List.length_take, List.length_drop, List.length_append, List.length_cons, List.length_nil, List.length_map]; omega)) [h, IntWalk.i64_in, IntWalk.i64_quo, hc']))
      | (refine condK_beq (fun h => ?_) (fun h => ?_) <;> (try simp (disch := first | omega | (simp only [List.length_take, List.length_drop, List.length_append, List.length_cons, List.length_nil, List.length_map]; omega)) [h, IntWalk.i64_in, IntWalk.i64_quo, hc']))
      | (refine condK_bne (fun h => ?_) (fun h => ?_) <;> (try simp (disch := first | omega | (simp only [List.length_take, List.length_drop, List.length_append, List.length_cons, List.length_nil, List.length_map]; omega)) [h, IntWalk.i64_in, IntWalk.i64_quo, hc']))
      | (refine condK_not (fun h => ?_) (fun h => ?_) <;> (try simp (disch := first | omega | (simp only [List.length_take, List.length_drop, List.length_append, List.length_cons, List.length_nil, List.length_map]; omega)) [h, IntWalk.i64_in, IntWalk.i64_quo, hc']))
      | (refine condK_split (fun h => ?_) (fun h => ?_) <;> (try simp (disch := first | omega | (simp only [List.length_take, List.length_drop, List.length_append, List.length_cons, List.length_nil, List.length_map]; omega)) [h, IntWalk.i64_in, IntWalk.i64_quo, hc']))
    all_goals (simp [mayR, *]; try omega)
  · simp (disch := first | omega | (simp only [List.length_take, List.length_drop, List.length_append, List.length_cons, List.length_nil, List.length_map]; omega)) [IntWalk.i64_in, IntWalk.i64_quo, c19, hc]
    repeat' first
      | (refine region_static rfl (by decide +kernel) ?_; try simp (disch := first | omega | (simp only [List.length_take, List.length_drop, List.length_append, List.length_cons, List.length_nil, List.length_map]; omega)) [IntWalk.i64_in, IntWalk.i64_quo, hc])
      | (refine And.intro (by omega) ?_; try simp (disch := first | omega | (simp only [List.length_take, List.length_drop, List.length_append, List.length_cons, List.length_nil, List.length_map]; omega)) [IntWalk.i64_in, IntWalk.i64_quo, hc])
      | (refine guardK_ndec (fun h => ?_) (fun h => ?_) <;> (try simp (disch := first | omega | (simp only [List.length_take, List.length_drop, List.length_append, List.length_cons, List.length_nil, List.length_map]; omega)) [h, IntWalk.i64_in, IntWalk.i64_quo, hc]))
      | (refine guardK_dec (fun h => ?_) (fun h => ?_) <;> (try simp (disch := first | omega | (simp only [List.length_take, List.length_drop, List.length_append, List.length_cons, List.length_nil, List.length_map]; omega)) [h, IntWalk.i64_in, IntWalk.i64_quo, hc]))
      | (refine guardK_nbeq (fun h => ?_) (fun h => ?_) <;> (try simp (disch := first | omega | (simp only [List.length_take, List.length_drop, List.length_append, List.length_cons, List.length_nil, List.length_map]; omega)) [h, IntWalk.i64_in, IntWalk.i64_quo, hc]))
      | (refine guardK_beq (fun h => ?_) (fun h => ?_) <;> (try simp (disch := first | omega | (simp only [List.length_take, List.length_drop, List.length_append, List.length_cons, List.length_nil, List.length_map]; omega)) [h, IntWalk.i64_in, IntWalk.i64_quo, hc]))
      | (refine guardK_bne (fun h => ?_) (fun h => ?_) <;> (try simp (disch := first | omega | (simp only [List.length_take, List.length_drop, List.length_append, List.length_cons, List.length_nil, List.length_map]; omega)) [h, IntWalk.i64_in, IntWalk.i64_quo, hc]))
      | (refine guardK_not (fun h => ?_) (fun h => ?_) <;> (try simp (disch := first | omega | (simp only [List.length_take, List.length_drop, List.length_append, List.length_cons, List.length_nil, List.length_map]; omega)) [h, IntWalk.i64_in, IntWalk.i64_quo, hc]))
      | (refine guardK_split (fun h => ?_) (fun h => ?_) <;> (try simp (disch := first | omega | (simp only [List.length_take, List.length_drop, List.length_append, List.length_cons, List.length_nil, List.length_map]; omega)) [h, IntWalk.i64_in, IntWalk.i64_quo, hc]))
      | (refine condK_ndec (fun h => ?_) (fun h => ?_) <;> (try simp (disch := first | omega | (simp only [List.length_take, List.length_drop, List.length_append, List.length_cons, List.length_nil, List.length_map]; omega)) [h, IntWalk.i64_in, IntWalk.i64_quo, hc]))
      | (refine condK_dec (fun h => ?_) (fun h => ?_) <;> (try simp (disch := first | omega | (simp only [List.length_take, List.length_drop, List.length_append, List.length_cons, List.length_nil, List.length_map]; omega)) [h, IntWalk.i64_in, IntWalk.i64_quo, hc]))
      | (refine condK_nbeq (fun h => ?_) (fun h => ?_) <;> (try simp (disch := first | omega | (simp only [List.length_take, List.length_drop, List.length_append, List.length_cons, List.length_nil, List.length_map]; omega)) [h, IntWalk.i64_in, IntWalk.i64_quo, hc]))
      | (refine condK_beq (fun h => ?_) (fun h => ?_) <;> (try simp (disch := first | omega | (simp only [List.length_take, List.length_drop, List.length_append, List.length_cons, List.length_nil, List.length_map]; omega)) [h, IntWalk.i64_in, IntWalk.i64_quo, hc]))
      | (refine condK_bne (fun h => ?_) (fun h => ?_) <;> (try simp (disch := first | omega | (simp only [List.length_take, List.length_drop, List.length_append, List.length_cons, List.length_nil, List.length_map]; omega)) [h, IntWalk.i64_in, IntWalk.i64_quo, hc]))
      | (refine condK_not (fun h => ?_) (fun h => ?_) <;> (try simp (disch := first | omega | (simp only [List.length_take, List.length_drop, List.length_append, List.length_cons, List.length_nil, List.length_map]; omega)) [h, IntWalk.i64_in, IntWalk.i64_quo, hc]))
      | (refine condK_split (fun h => ?_) (fun h => ?_) <;> (try simp (disch := first | omega | (simp only [List.length_take, List.length_drop, List.length_append, List.length_cons, List.length_nil, List.length_map]; omega)) [h, IntWalk.i64_in, IntWalk.i64_quo, hc]))
    all_goals (simp [mayR, *]; try omega)

def le3 (n : Int) : List UInt8 := [UInt8.ofInt n, UInt8.ofInt (n / 256), UInt8.ofInt (n / 65536)]
theorem three_clip (l : List UInt8) (n : Int) (hn : 0 ≤ n) (hl : l.length ≤ 100000) (h : List Blk) (tk : List (Nat × Nat)) : ASpec Try.prog 36 [.sl .clip (ofBytes l), .int .i64 n] ⟨h, tk⟩ fun v st' => v = .sl (.own tk.length) (ofBytes (l ++ le3 n)) ∧ st' = ⟨h, tk ++ [(l.length + 3, 1)]⟩ := by
  refine raw_of B6s F36 rfl ?_
  simp (disch := first | omega | (simp only [List.length_take, List.length_drop, List.length_append, List.length_cons, List.length_nil, List.length_map]; omega)) [IntWalk.i64_in, IntWalk.i64_quo, c36, shr_i64]
  refine ⟨by omega, .inl ⟨by simp, by simp, ?_, by simp⟩⟩
  simp [le3]
theorem three_own (l : List UInt8) (n : Int) (k : Nat) (hn : 0 ≤ n) (hl : l.length ≤ 100000) (h : List Blk) (tk : List (Nat × Nat)) (hk : tk[k]? = some (l.length, 1)) : ASpec Try.prog 36 [.sl (.own k) (ofBytes l), .int .i64 n] ⟨h, tk⟩ fun v st' => v = .sl (.own k) (ofBytes (l ++ le3 n)) ∧ st' = ⟨h, tk.set k (l.length + 3, 1)⟩ := by
  refine raw_of B6s F36 rfl ?_
  simp (disch := first | omega | (simp only [List.length_take, List.length_drop, List.length_append, List.length_cons, List.length_nil, List.length_map]; omega)) [IntWalk.i64_in, IntWalk.i64_quo, c36, shr_i64, hk]
  refine ⟨by omega, .inl ⟨by simp, by simp, ?_, by simp⟩⟩
  simp [le3]
attribute [irreducible] mayR
def nmB (n : Nm) : List UInt8 := le3 n.stamp ++ le3 n.inc ++ le3 n.tr
theorem named_clip (l : List UInt8) (n : Nm) (hn : 0 ≤ n.stamp ∧ 0 ≤ n.inc ∧ 0 ≤ n.tr) (hl : l.length ≤ 90000) (h : List Blk) (tk : List (Nat × Nat)) : ASpec Try.prog 37 [.sl .clip (ofBytes l), .agg (nmC n)] ⟨h, tk⟩ fun v st' => v = .sl (.own tk.length) (ofBytes (l ++ nmB n)) ∧ st' = ⟨h, tk ++ [(l.length + 9, 1)]⟩ := by
  refine raw_of B6s F37 rfl ?_
  simp (disch := first | omega | (simp only [List.length_take, List.length_drop, List.length_append, List.length_cons, List.length_nil, List.length_map]; omega)) [IntWalk.i64_in, IntWalk.i64_quo, c37]
  refine (three_clip l n.stamp hn.1 (by omega) _ _).mono ?_
  rintro _ _ ⟨rfl, rfl⟩
  simp (disch := first | omega | (simp only [List.length_take, List.length_drop, List.length_append, List.length_cons, List.length_nil, List.length_map]; omega)) [IntWalk.i64_in, IntWalk.i64_quo]
  refine (three_own (l ++ le3 n.stamp) n.inc _ hn.2.1 (by simp [le3]; omega) _ _ (by simp [le3])).mono ?_
  rintro _ _ ⟨rfl, rfl⟩
  simp (disch := first | omega | (simp only [List.length_take, List.length_drop, List.length_append, List.length_cons, List.length_nil, List.length_map]; omega)) [IntWalk.i64_in, IntWalk.i64_quo]
  refine (three_own _ n.tr _ hn.2.2 (by simp [le3]; omega) _ _ (by simp [le3])).mono ?_
  rintro _ _ ⟨rfl, rfl⟩
  simp (disch := first | omega | (simp only [List.length_take, List.length_drop, List.length_append, List.length_cons, List.length_nil, List.length_map]; omega)) [IntWalk.i64_in, IntWalk.i64_quo]
  refine .inl ⟨by simp, by simp, ?_, by simp [le3]⟩
  simp [nmB]

def wb (w : Wr) : List UInt8 := [UInt8.ofInt w.block, w.v0, w.v1, w.v2, w.v3, w.v4, w.v5, w.v6, w.v7]
def wsB (l : List Wr) : List UInt8 := UInt8.ofInt l.length :: (l.map wb).flatten
theorem wb_len (l : List Wr) : ((l.map wb).flatten).length = 9 * l.length := by
  induction l with
  | nil => rfl
  | cons w l ih => rw [List.map_cons, List.flatten_cons, List.length_append, ih]; simp [wb]; omega
theorem wb_step (l : List Wr) (i : Nat) (h : i < l.length) : ((l.take (i + 1)).map wb).flatten = ((l.take i).map wb).flatten ++ wb l[i] := by
  rw [List.take_succ_eq_append_getElem h, List.map_append, List.flatten_append]
  simp
/-- The first writes' bytes. -/
def wf (ws : List Wr) (i : Nat) : List UInt8 := ((ws.take i).map wb).flatten
theorem wf_0 (ws : List Wr) : wf ws 0 = [] := rfl
theorem wf_len (ws : List Wr) {i : Nat} (h : i ≤ ws.length) : (wf ws i).length = 9 * i := by rw [wf, wb_len]; simp; omega
theorem wf_succ (ws : List Wr) {i : Nat} (h : i < ws.length) : wf ws (i + 1) = wf ws i ++ wb ws[i] := wb_step ws i h
theorem wf_all (ws : List Wr) : wf ws ws.length = (ws.map wb).flatten := by rw [wf, List.take_length]
attribute [irreducible] wf
set_option maxRecDepth 20000 in
theorem writes_own (l : List UInt8) (ws : List Wr) (k : Nat) (hw : ws.length ≤ 1000) (hl : l.length ≤ 90000) (h : List Blk) (tk : List (Nat × Nat)) (hk : tk[k]? = some (l.length, 1)) : ASpec Try.prog 38 [.sl (.own k) (ofBytes l), .sl .any (wrs ws)] ⟨h, tk⟩ fun v st' => v = .sl (.own k) (ofBytes (l ++ wsB ws)) ∧ st' = ⟨h, tk.set k ((l ++ wsB ws).length, 1)⟩ := by
  refine raw_of B6s F38 rfl ?_
  simp (disch := first | omega | (simp only [List.length_take, List.length_drop, List.length_append, List.length_cons, List.length_nil, List.length_map]; omega)) [IntWalk.i64_in, IntWalk.i64_quo, c38, hk]
  refine ⟨by omega, ?_⟩
  have hkl := (List.getElem?_eq_some_iff.1 hk).1
  refine awC_loopW (fun j env s => ∃ i, j + i = ws.length ∧ env 0 = .sl (.own k) (ofBytes (l ++ UInt8.ofInt ws.length :: wf ws i)) ∧ env 1 = .sl .any (wrs ws) ∧ env 5 = .int .i64 i ∧ s = ⟨h, tk.set k (l.length + ((wf ws i).length + 1), 1)⟩) ws.length ?_ ?_
  · exact ⟨0, by simp [wf_0]⟩
  rintro j env s ⟨i, hj, e0, e1, e5, rfl⟩
  by_cases hi : i < ws.length
  · have hi' : (i : Int) < ws.length := by omega
    have hfl := wf_len ws (Nat.le_of_lt hi)
    simp (disch := first | omega | (simp only [List.length_take, List.length_drop, List.length_append, List.length_cons, List.length_nil, List.length_map]; omega)) [IntWalk.i64_in, IntWalk.i64_quo, e0, e1, e5, hi', hi, hkl]
    refine ⟨by omega, ?_⟩
    refine awC_loopU 9 ?_
    simp (disch := first | omega | (simp only [List.length_take, List.length_drop, List.length_append, List.length_cons, List.length_nil, List.length_map]; omega)) [IntWalk.i64_in, IntWalk.i64_quo, e0, e1, e5, hi', hi, hkl]
    repeat' first
      | (refine region_static rfl (by decide +kernel) ?_; try simp (disch := first | omega | (simp only [List.length_take, List.length_drop, List.length_append, List.length_cons, List.length_nil, List.length_map]; omega)) [IntWalk.i64_in, IntWalk.i64_quo, e0, e1, e5, hi', hi, hkl])
      | (refine And.intro (by omega) ?_; try simp (disch := first | omega | (simp only [List.length_take, List.length_drop, List.length_append, List.length_cons, List.length_nil, List.length_map]; omega)) [IntWalk.i64_in, IntWalk.i64_quo, e0, e1, e5, hi', hi, hkl])
      | (refine guardK_ndec (fun h => ?_) (fun h => ?_) <;> (try simp (disch := first | omega | (simp only [List.length_take, List.length_drop, List.length_append, List.length_cons, List.length_nil, List.length_map]; omega)) [h, IntWalk.i64_in, IntWalk.i64_quo, e0, e1, e5, hi', hi, hkl]))
      | (refine guardK_dec (fun h => ?_) (fun h => ?_) <;> (try simp (disch := first | omega | (simp only [List.length_take, List.length_drop, List.length_append, List.length_cons, List.length_nil, List.length_map]; omega)) [h, IntWalk.i64_in, IntWalk.i64_quo, e0, e1, e5, hi', hi, hkl]))
      | (refine guardK_nbeq (fun h => ?_) (fun h => ?_) <;> (try simp (disch := first | omega | (simp only [List.length_take, List.length_drop, List.length_append, List.length_cons, List.length_nil, List.length_map]; omega)) [h, IntWalk.i64_in, IntWalk.i64_quo, e0, e1, e5, hi', hi, hkl]))
      | (refine guardK_beq (fun h => ?_) (fun h => ?_) <;> (try simp (disch := first | omega | (simp only [List.length_take, List.length_drop, List.length_append, List.length_cons, List.length_nil, List.length_map]; omega)) [h, IntWalk.i64_in, IntWalk.i64_quo, e0, e1, e5, hi', hi, hkl]))
      | (refine guardK_bne (fun h => ?_) (fun h => ?_) <;> (try simp (disch := first | omega | (simp only [List.length_take, List.length_drop, List.length_append, List.length_cons, List.length_nil, List.length_map]; omega)) [h, IntWalk.i64_in, IntWalk.i64_quo, e0, e1, e5, hi', hi, hkl]))
      | (refine guardK_not (fun h => ?_) (fun h => ?_) <;> (try simp (disch := first | omega | (simp only [List.length_take, List.length_drop, List.length_append, List.length_cons, List.length_nil, List.length_map]; omega)) [h, IntWalk.i64_in, IntWalk.i64_quo, e0, e1, e5, hi', hi, hkl]))
      | (refine guardK_split (fun h => ?_) (fun h => ?_) <;> (try simp (disch := first | omega | (simp only [List.length_take, List.length_drop, List.length_append, List.length_cons, List.length_nil, List.length_map]; omega)) [h, IntWalk.i64_in, IntWalk.i64_quo, e0, e1, e5, hi', hi, hkl]))
      | (refine condK_ndec (fun h => ?_) (fun h => ?_) <;> (try simp (disch := first | omega | (simp only [List.length_take, List.length_drop, List.length_append, List.length_cons, List.length_nil, List.length_map]; omega)) [h, IntWalk.i64_in, IntWalk.i64_quo, e0, e1, e5, hi', hi, hkl]))
      | (refine condK_dec (fun h => ?_) (fun h => ?_) <;> (try simp (disch := first | omega | (simp only [List.length_take, List.length_drop, List.length_append, List.length_cons, List.length_nil, List.length_map]; omega)) [h, IntWalk.i64_in, IntWalk.i64_quo, e0, e1, e5, hi', hi, hkl]))
      | (refine condK_nbeq (fun h => ?_) (fun h => ?_) <;> (try simp (disch := first | omega | (simp only [List.length_take, List.length_drop, List.length_append, List.length_cons, List.length_nil, List.length_map]; omega)) [h, IntWalk.i64_in, IntWalk.i64_quo, e0, e1, e5, hi', hi, hkl]))
      | (refine condK_beq (fun h => ?_) (fun h => ?_) <;> (try simp (disch := first | omega | (simp only [List.length_take, List.length_drop, List.length_append, List.length_cons, List.length_nil, List.length_map]; omega)) [h, IntWalk.i64_in, IntWalk.i64_quo, e0, e1, e5, hi', hi, hkl]))
      | (refine condK_bne (fun h => ?_) (fun h => ?_) <;> (try simp (disch := first | omega | (simp only [List.length_take, List.length_drop, List.length_append, List.length_cons, List.length_nil, List.length_map]; omega)) [h, IntWalk.i64_in, IntWalk.i64_quo, e0, e1, e5, hi', hi, hkl]))
      | (refine condK_not (fun h => ?_) (fun h => ?_) <;> (try simp (disch := first | omega | (simp only [List.length_take, List.length_drop, List.length_append, List.length_cons, List.length_nil, List.length_map]; omega)) [h, IntWalk.i64_in, IntWalk.i64_quo, e0, e1, e5, hi', hi, hkl]))
      | (refine condK_split (fun h => ?_) (fun h => ?_) <;> (try simp (disch := first | omega | (simp only [List.length_take, List.length_drop, List.length_append, List.length_cons, List.length_nil, List.length_map]; omega)) [h, IntWalk.i64_in, IntWalk.i64_quo, e0, e1, e5, hi', hi, hkl]))
    have hs := wf_succ ws hi
    have hs2 := congrArg List.length hs
    rw [List.length_append, show (wb ws[i]).length = 9 from rfl] at hs2
    refine ⟨j - 1, by omega, i + 1, by omega, hs.symm, by simp, ?_⟩
    rw [show l.length + ((wf ws i).length + 8 + 1) + 1 = l.length + ((wf ws (i + 1)).length + 1) by omega]
  · have hi' : ¬ (i : Int) < ws.length := by omega
    have hiw : i = ws.length := by omega
    subst hiw
    have hfl := wf_len ws (Nat.le_refl _)
    simp (disch := first | omega | (simp only [List.length_take, List.length_drop, List.length_append, List.length_cons, List.length_nil, List.length_map]; omega)) [IntWalk.i64_in, IntWalk.i64_quo, e0, e1, e5, hi']
    refine .inl ⟨by simp, by simp, ?_, ?_⟩
    · simp [wsB, wf_all]
    · simp only [wsB, wf_all, List.length_cons]

/-- A record's bytes. -/
def recB (r : Rc) : List UInt8 :=
  if r.kind = 6 ∨ r.kind = 7 then UInt8.ofInt r.kind :: le3 r.n
  else UInt8.ofInt r.kind :: (nmB r.nm ++ (if r.kind = 1 then wsB r.ws else if r.kind = 2 then wsB r.ws ++ [UInt8.ofInt r.give, UInt8.ofInt r.take] else if r.kind = 3 then [if r.yes then 1 else 0]
    else if r.kind = 4 then [UInt8.ofInt r.shards, UInt8.ofInt (r.stripe + 1), UInt8.ofInt r.to] else []))
def bytesR (r : Rc) : List UInt8 × Int := if mayR r = true then (recB r, 0) else ([], 2)
theorem named_pos {n : Nm} (h : named n = true) : 0 ≤ n.stamp ∧ 0 ≤ n.inc ∧ 0 ≤ n.tr := by
  rw [named_eq] at h
  simp only [Bool.and_eq_true, within_iff] at h
  omega
theorem may_facts {r : Rc} (h : mayR r = true) : (1 ≤ r.kind ∧ r.kind ≤ 7) ∧ r = fieldsR r ∧ ((r.kind = 6 ∨ r.kind = 7) → 0 ≤ r.n) ∧ (¬ (r.kind = 6 ∨ r.kind = 7) → named r.nm = true ∧ written r.ws = true ∧ given r.give r.take = true ∧ (r.kind = 4 → shardsOk r.shards = true ∧ changed r.stripe r.to = true)) := by
  unfold mayR at h
  simp only [Bool.and_eq_true, decide_eq_true_eq] at h
  obtain ⟨⟨h1, h2⟩, h3⟩ := h
  refine ⟨h1, h2, fun hk => ?_, fun hk => ?_⟩
  · rcases hk with hk | hk <;> simp [hk] at h3 <;> omega
  · rw [if_neg (by omega), if_neg (by omega)] at h3
    simp only [Bool.and_eq_true] at h3
    obtain ⟨⟨⟨a1, a2⟩, a3⟩, a4⟩ := h3
    refine ⟨a1, a2, a3, fun h4 => ?_⟩
    simpa [h4] using a4
theorem written_len {l : List Wr} (h : written l = true) : l.length ≤ 8 := by
  unfold written at h
  simp only [Bool.and_eq_true, decide_eq_true_eq] at h
  exact h.2
end Go.Proofs.Ytchaakjbedkndaa

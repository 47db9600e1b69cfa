/- Moves: Writes, wakes, MoveTicks. -/
import Derived.Test.YtjceilhmgbdgiaaZMD
set_option linter.all false
namespace Go.Proofs.Ytjceilhmgbdgiaa
open Go.Am

def wOf (s : Int) (i : Nat) (v : Vl) : Wr := ⟨s * 4 + i, v.v0, v.v1, v.v2, v.v3, v.v4, v.v5, v.v6, v.v7⟩
def wsI (s : Int) (l : List Vl) : List Wr := l.mapIdx (wOf s)
@[simp] theorem wsI_length (s : Int) (l : List Vl) : (wsI s l).length = l.length := by simp [wsI]
theorem wsI_get (s : Int) (l : List Vl) (i : Nat) : (wsI s l)[i]? = l[i]?.map (wOf s i) := by simp [wsI]
theorem wsI_step (s : Int) (l : List Vl) (i : Nat) (h : i < l.length) : wsI s (l.take (i + 1)) = wsI s (l.take i) ++ [wOf s i l[i]] := by
  unfold wsI
  rw [List.take_succ_eq_append_getElem h, List.mapIdx_append]
  simp only [List.mapIdx_cons, List.mapIdx_nil, List.length_take, Nat.min_eq_left (Nat.le_of_lt h), Nat.zero_add]
theorem wrs_snoc (l : List Wr) (w : Wr) : wrs (l ++ [w]) = wrs l ++ [wrA w] := by simp [wrs]
def writesM (m : Mv) : List Wr := if checkM m = true ∧ m.ph = 2 then wsI m.stripe m.vals else []
theorem check_2 {m : Mv} (h : checkM m = true) (h1 : m.ph = 2) : suchC m.stripe m.to m.fr m.nm = true ∧ m.n = 4 ∧ m.vals.length = 4 := by
  unfold checkM at h
  rw [if_neg (by omega), if_neg (by omega), if_pos h1] at h
  simp only [Bool.and_eq_true, within_iff, decide_eq_true_eq] at h
  exact ⟨h.1.1.1, h.2, by omega⟩
theorem writes_spec (m : Mv) (hl : m.vals.length ≤ 1048576) (st : St) : ASpec Try.prog 19 [.agg (mvC m)] st fun v st' => v = .sl .any (wrs (writesM m)) ∧ st' = st := by
  refine pure_of (R := fun v => v = _) D9s F19 rfl ?_
  unfold writesM
  obtain ⟨p, nm, s, t, f, n, l⟩ := m
  simp only at hl ⊢
  by_cases hc : checkM ⟨p, nm, s, t, f, n, l⟩ = true
  case neg =>
    simp (disch := first | omega | (simp only [List.length_take, List.length_drop, List.length_append, List.length_cons, List.length_nil, List.length_map]; omega)) [IntWalk.i64_in, IntWalk.i64_quo, c19, hl, hc, eOf]
  by_cases hp : p = 2
  case neg =>
    simp (disch := first | omega | (simp only [List.length_take, List.length_drop, List.length_append, List.length_cons, List.length_nil, List.length_map]; omega)) [IntWalk.i64_in, IntWalk.i64_quo, c19, hl, hc, eOf, hp]
  subst hp
  obtain ⟨k1, k2, k3⟩ := check_2 hc rfl
  obtain ⟨s1, _⟩ := suchC_facts k1
  simp only at k2 k3 s1
  subst k2
  simp (disch := first | omega | (simp only [List.length_take, List.length_drop, List.length_append, List.length_cons, List.length_nil, List.length_map]; omega)) [IntWalk.i64_in, IntWalk.i64_quo, c19, hl, hc, eOf]
  refine awC_loopOwn 3 9 [] (by simp) (fun k env s' => ∃ i, k + i = l.length ∧ env 1 = .rptr (.agg (mvC ⟨2, nm, s, t, f, 4, l⟩)) ∧ env 3 = .sl (.own st.toks.length) (wrs (wsI s (l.take i))) ∧ env 15 = .sl .any (vls l) ∧ env 16 = .int .i64 l.length ∧ env 17 = .int .i64 i ∧ s' = ⟨st.heap, st.toks ++ [(i, 9)]⟩) l.length ?_ ?_
  · exact ⟨0, by simp [wsI]⟩
  rintro k env s' ⟨i, hk, e1, e3, e15, e16, e17, rfl⟩
  by_cases hi : i < l.length
  · have hi' : (i : Int) < l.length := by omega
    have hst := wsI_step s l i hi
    have hw : wrs (wsI s (l.take i)) ++ [.agg [.int .i64 (s * 4 + i), u8 l[i].v0, u8 l[i].v1, u8 l[i].v2, u8 l[i].v3, u8 l[i].v4, u8 l[i].v5, u8 l[i].v6, u8 l[i].v7]] = wrs (wsI s (l.take (i + 1))) := by
      rw [hst, wrs_snoc]
      rfl
    simp (disch := first | omega | (simp only [List.length_take, List.length_drop, List.length_append, List.length_cons, List.length_nil, List.length_map]; omega)) [IntWalk.i64_in, IntWalk.i64_quo, e1, e3, e15, e16, e17, hi, hi', hw]
    refine ⟨by omega, k - 1, by omega, [1, 3, 15, 16, 17], _, .tok (tk := st.toks ++ [(i + 1, 9)]) (by simp) (by simp) (by simp) ?_, i + 1, by omega, ?_⟩
    · simp [e1, e15, e16]
    · simp [e1, e15, e16]
  · have hi' : ¬ (i : Int) < l.length := by omega
    have ht : l.take i = l := List.take_of_length_le (by omega)
    simp (disch := first | omega | (simp only [List.length_take, List.length_drop, List.length_append, List.length_cons, List.length_nil, List.length_map]; omega)) [IntWalk.i64_in, IntWalk.i64_quo, e1, e3, e15, e16, e17, hi', ht]
theorem name_spec (st : St) : ASpec Try.prog 58 [] st fun v st' => v = .agg [.int .i64 4, .int .i64 1, .int .i64 1] ∧ st' = st := by
  refine pure_of (R := fun v => v = _) D9s F58 rfl ?_
  simp (disch := first | omega | (simp only [List.length_take, List.length_drop, List.length_append, List.length_cons, List.length_nil, List.length_map]; omega)) [IntWalk.i64_in, IntWalk.i64_quo, c58]
noncomputable def E1 : Orc := D9.add 58 (tab (fun x : Unit => []) (fun x => .agg [.int .i64 4, .int .i64 1, .int .i64 1]) fun x => True)
theorem E1s : OSound Try.prog E1 := D9s.tab fun x h st => name_spec st
@[simp] theorem E1_58  : E1 58 [] = some (.agg [.int .i64 4, .int .i64 1, .int .i64 1]) := by
  rw [E1, Orc.add_same]
  exact tab_eq (fun x y h => by rfl) (x := ()) trivial
@[simp] theorem E1_o (f : Nat) (args : List AV) (h : f ≠ 58) : E1 f args = D9 f args := by
  rw [E1, Orc.add_other _ _ _ _ _ h]
def didM (n e : Int) (b : UInt8) : Ms := ⟨3, 1, 0, 1, 0, ⟨4, 1, 1⟩, n, 0, 0, ⟨if e = 0 then b else 0, 0, 0, 0, 0, 0, 0, 0⟩, e, false, 0, 0, []⟩
theorem did_spec (n e : Int) (b : UInt8) (st : St) : ASpec Try.prog 59 [.int .i64 n, .int .i64 e, u8 b] st fun v st' => v = .agg (msC (didM n e b)) ∧ st' = st := by
  refine pure_of (R := fun v => v = _) E1s F59 rfl ?_
  by_cases he : e = 0
  · simp (disch := first | omega | (simp only [List.length_take, List.length_drop, List.length_append, List.length_cons, List.length_nil, List.length_map]; omega)) [IntWalk.i64_in, IntWalk.i64_quo, c59, he, didM, u8]
  · simp (disch := first | omega | (simp only [List.length_take, List.length_drop, List.length_append, List.length_cons, List.length_nil, List.length_map]; omega)) [IntWalk.i64_in, IntWalk.i64_quo, c59, he, didM, u8]
noncomputable def E2 : Orc := E1.add 59 (tab (fun x : Int × Int × UInt8 => [.int .i64 x.1, .int .i64 x.2.1, u8 x.2.2]) (fun x => .agg (msC (didM x.1 x.2.1 x.2.2))) fun x => True)
theorem E2s : OSound Try.prog E2 := E1s.tab fun x h st => did_spec x.1 x.2.1 x.2.2 st
@[simp] theorem E2_59 (n : Int) (e : Int) (b : UInt8) : E2 59 [.int .i64 n, .int .i64 e, u8 b] = some (.agg (msC (didM n e b))) := by
  rw [E2, Orc.add_same]
  exact tab_eq (fun x y h => by simp at h; simp [h]) (x := (n, e, b)) trivial
@[simp] theorem E2_o (f : Nat) (args : List AV) (h : f ≠ 59) : E2 f args = E1 f args := by
  rw [E2, Orc.add_other _ _ _ _ _ h]
noncomputable def E3 : Orc := E2.add 17 (tab (fun x : Int × Int × Int × Int × Int × Int × Int × Int × List Vl × Int × Int × Int × Int × Int × Int × Int × Int × Int × Int × Int × UInt8 × UInt8 × UInt8 × UInt8 × UInt8 × UInt8 × UInt8 × UInt8 × Int × Bool × Int × Int × List Wr => [.agg [.int .i8 x.1, .int .i64 x.2.1, .int .i64 x.2.2.1, .int .i64 x.2.2.2.1, .int .i64 x.2.2.2.2.1, .int .i64 x.2.2.2.2.2.1, .int .i64 x.2.2.2.2.2.2.1, .int .i64 x.2.2.2.2.2.2.2.1, .sl .any (vls x.2.2.2.2.2.2.2.2.1)], .agg [.int .i8 x.2.2.2.2.2.2.2.2.2.1, .int .i64 x.2.2.2.2.2.2.2.2.2.2.1, .int .i64 x.2.2.2.2.2.2.2.2.2.2.2.1, .int .i64 x.2.2.2.2.2.2.2.2.2.2.2.2.1, .int .i64 x.2.2.2.2.2.2.2.2.2.2.2.2.2.1, .int .i64 x.2.2.2.2.2.2.2.2.2.2.2.2.2.2.1, .int .i64 x.2.2.2.2.2.2.2.2.2.2.2.2.2.2.2.1, .int .i64 x.2.2.2.2.2.2.2.2.2.2.2.2.2.2.2.2.1, .int .i64 x.2.2.2.2.2.2.2.2.2.2.2.2.2.2.2.2.2.1, .int .i8 x.2.2.2.2.2.2.2.2.2.2.2.2.2.2.2.2.2.2.1, .int .i64 x.2.2.2.2.2.2.2.2.2.2.2.2.2.2.2.2.2.2.2.1, u8 x.2.2.2.2.2.2.2.2.2.2.2.2.2.2.2.2.2.2.2.2.1, u8 x.2.2.2.2.2.2.2.2.2.2.2.2.2.2.2.2.2.2.2.2.2.1, u8 x.2.2.2.2.2.2.2.2.2.2.2.2.2.2.2.2.2.2.2.2.2.2.1, u8 x.2.2.2.2.2.2.2.2.2.2.2.2.2.2.2.2.2.2.2.2.2.2.2.1, u8 x.2.2.2.2.2.2.2.2.2.2.2.2.2.2.2.2.2.2.2.2.2.2.2.2.1, u8 x.2.2.2.2.2.2.2.2.2.2.2.2.2.2.2.2.2.2.2.2.2.2.2.2.2.1, u8 x.2.2.2.2.2.2.2.2.2.2.2.2.2.2.2.2.2.2.2.2.2.2.2.2.2.2.1, u8 x.2.2.2.2.2.2.2.2.2.2.2.2.2.2.2.2.2.2.2.2.2.2.2.2.2.2.2.1, .int .i64 x.2.2.2.2.2.2.2.2.2.2.2.2.2.2.2.2.2.2.2.2.2.2.2.2.2.2.2.2.1, .bool x.2.2.2.2.2.2.2.2.2.2.2.2.2.2.2.2.2.2.2.2.2.2.2.2.2.2.2.2.2.1, .int .i64 x.2.2.2.2.2.2.2.2.2.2.2.2.2.2.2.2.2.2.2.2.2.2.2.2.2.2.2.2.2.2.1, .int .i64 x.2.2.2.2.2.2.2.2.2.2.2.2.2.2.2.2.2.2.2.2.2.2.2.2.2.2.2.2.2.2.2.1, .sl .any (wrs x.2.2.2.2.2.2.2.2.2.2.2.2.2.2.2.2.2.2.2.2.2.2.2.2.2.2.2.2.2.2.2.2)]]) (fun x => .tup [.agg (mvC (hearM ⟨x.1, ⟨x.2.1, x.2.2.1, x.2.2.2.1⟩, x.2.2.2.2.1, x.2.2.2.2.2.1, x.2.2.2.2.2.2.1, x.2.2.2.2.2.2.2.1, x.2.2.2.2.2.2.2.2.1⟩ ⟨x.2.2.2.2.2.2.2.2.2.1, x.2.2.2.2.2.2.2.2.2.2.1, x.2.2.2.2.2.2.2.2.2.2.2.1, x.2.2.2.2.2.2.2.2.2.2.2.2.1, x.2.2.2.2.2.2.2.2.2.2.2.2.2.1, ⟨x.2.2.2.2.2.2.2.2.2.2.2.2.2.2.1, x.2.2.2.2.2.2.2.2.2.2.2.2.2.2.2.1, x.2.2.2.2.2.2.2.2.2.2.2.2.2.2.2.2.1⟩, x.2.2.2.2.2.2.2.2.2.2.2.2.2.2.2.2.2.1, x.2.2.2.2.2.2.2.2.2.2.2.2.2.2.2.2.2.2.1, x.2.2.2.2.2.2.2.2.2.2.2.2.2.2.2.2.2.2.2.1, ⟨x.2.2.2.2.2.2.2.2.2.2.2.2.2.2.2.2.2.2.2.2.1, x.2.2.2.2.2.2.2.2.2.2.2.2.2.2.2.2.2.2.2.2.2.1, x.2.2.2.2.2.2.2.2.2.2.2.2.2.2.2.2.2.2.2.2.2.2.1, x.2.2.2.2.2.2.2.2.2.2.2.2.2.2.2.2.2.2.2.2.2.2.2.1, x.2.2.2.2.2.2.2.2.2.2.2.2.2.2.2.2.2.2.2.2.2.2.2.2.1, x.2.2.2.2.2.2.2.2.2.2.2.2.2.2.2.2.2.2.2.2.2.2.2.2.2.1, x.2.2.2.2.2.2.2.2.2.2.2.2.2.2.2.2.2.2.2.2.2.2.2.2.2.2.1, x.2.2.2.2.2.2.2.2.2.2.2.2.2.2.2.2.2.2.2.2.2.2.2.2.2.2.2.1⟩, x.2.2.2.2.2.2.2.2.2.2.2.2.2.2.2.2.2.2.2.2.2.2.2.2.2.2.2.2.1, x.2.2.2.2.2.2.2.2.2.2.2.2.2.2.2.2.2.2.2.2.2.2.2.2.2.2.2.2.2.1, x.2.2.2.2.2.2.2.2.2.2.2.2.2.2.2.2.2.2.2.2.2.2.2.2.2.2.2.2.2.2.1, x.2.2.2.2.2.2.2.2.2.2.2.2.2.2.2.2.2.2.2.2.2.2.2.2.2.2.2.2.2.2.2.1, x.2.2.2.2.2.2.2.2.2.2.2.2.2.2.2.2.2.2.2.2.2.2.2.2.2.2.2.2.2.2.2.2⟩).1), .sl .any (mss (hearM ⟨x.1, ⟨x.2.1, x.2.2.1, x.2.2.2.1⟩, x.2.2.2.2.1, x.2.2.2.2.2.1, x.2.2.2.2.2.2.1, x.2.2.2.2.2.2.2.1, x.2.2.2.2.2.2.2.2.1⟩ ⟨x.2.2.2.2.2.2.2.2.2.1, x.2.2.2.2.2.2.2.2.2.2.1, x.2.2.2.2.2.2.2.2.2.2.2.1, x.2.2.2.2.2.2.2.2.2.2.2.2.1, x.2.2.2.2.2.2.2.2.2.2.2.2.2.1, ⟨x.2.2.2.2.2.2.2.2.2.2.2.2.2.2.1, x.2.2.2.2.2.2.2.2.2.2.2.2.2.2.2.1, x.2.2.2.2.2.2.2.2.2.2.2.2.2.2.2.2.1⟩, x.2.2.2.2.2.2.2.2.2.2.2.2.2.2.2.2.2.1, x.2.2.2.2.2.2.2.2.2.2.2.2.2.2.2.2.2.2.1, x.2.2.2.2.2.2.2.2.2.2.2.2.2.2.2.2.2.2.2.1, ⟨x.2.2.2.2.2.2.2.2.2.2.2.2.2.2.2.2.2.2.2.2.1, x.2.2.2.2.2.2.2.2.2.2.2.2.2.2.2.2.2.2.2.2.2.1, x.2.2.2.2.2.2.2.2.2.2.2.2.2.2.2.2.2.2.2.2.2.2.1, x.2.2.2.2.2.2.2.2.2.2.2.2.2.2.2.2.2.2.2.2.2.2.2.1, x.2.2.2.2.2.2.2.2.2.2.2.2.2.2.2.2.2.2.2.2.2.2.2.2.1, x.2.2.2.2.2.2.2.2.2.2.2.2.2.2.2.2.2.2.2.2.2.2.2.2.2.1, x.2.2.2.2.2.2.2.2.2.2.2.2.2.2.2.2.2.2.2.2.2.2.2.2.2.2.1, x.2.2.2.2.2.2.2.2.2.2.2.2.2.2.2.2.2.2.2.2.2.2.2.2.2.2.2.1⟩, x.2.2.2.2.2.2.2.2.2.2.2.2.2.2.2.2.2.2.2.2.2.2.2.2.2.2.2.2.1, x.2.2.2.2.2.2.2.2.2.2.2.2.2.2.2.2.2.2.2.2.2.2.2.2.2.2.2.2.2.1, x.2.2.2.2.2.2.2.2.2.2.2.2.2.2.2.2.2.2.2.2.2.2.2.2.2.2.2.2.2.2.1, x.2.2.2.2.2.2.2.2.2.2.2.2.2.2.2.2.2.2.2.2.2.2.2.2.2.2.2.2.2.2.2.1, x.2.2.2.2.2.2.2.2.2.2.2.2.2.2.2.2.2.2.2.2.2.2.2.2.2.2.2.2.2.2.2.2⟩).2.1), .int .i8 (hearM ⟨x.1, ⟨x.2.1, x.2.2.1, x.2.2.2.1⟩, x.2.2.2.2.1, x.2.2.2.2.2.1, x.2.2.2.2.2.2.1, x.2.2.2.2.2.2.2.1, x.2.2.2.2.2.2.2.2.1⟩ ⟨x.2.2.2.2.2.2.2.2.2.1, x.2.2.2.2.2.2.2.2.2.2.1, x.2.2.2.2.2.2.2.2.2.2.2.1, x.2.2.2.2.2.2.2.2.2.2.2.2.1, x.2.2.2.2.2.2.2.2.2.2.2.2.2.1, ⟨x.2.2.2.2.2.2.2.2.2.2.2.2.2.2.1, x.2.2.2.2.2.2.2.2.2.2.2.2.2.2.2.1, x.2.2.2.2.2.2.2.2.2.2.2.2.2.2.2.2.1⟩, x.2.2.2.2.2.2.2.2.2.2.2.2.2.2.2.2.2.1, x.2.2.2.2.2.2.2.2.2.2.2.2.2.2.2.2.2.2.1, x.2.2.2.2.2.2.2.2.2.2.2.2.2.2.2.2.2.2.2.1, ⟨x.2.2.2.2.2.2.2.2.2.2.2.2.2.2.2.2.2.2.2.2.1, x.2.2.2.2.2.2.2.2.2.2.2.2.2.2.2.2.2.2.2.2.2.1, x.2.2.2.2.2.2.2.2.2.2.2.2.2.2.2.2.2.2.2.2.2.2.1, x.2.2.2.2.2.2.2.2.2.2.2.2.2.2.2.2.2.2.2.2.2.2.2.1, x.2.2.2.2.2.2.2.2.2.2.2.2.2.2.2.2.2.2.2.2.2.2.2.2.1, x.2.2.2.2.2.2.2.2.2.2.2.2.2.2.2.2.2.2.2.2.2.2.2.2.2.1, x.2.2.2.2.2.2.2.2.2.2.2.2.2.2.2.2.2.2.2.2.2.2.2.2.2.2.1, x.2.2.2.2.2.2.2.2.2.2.2.2.2.2.2.2.2.2.2.2.2.2.2.2.2.2.2.1⟩, x.2.2.2.2.2.2.2.2.2.2.2.2.2.2.2.2.2.2.2.2.2.2.2.2.2.2.2.2.1, x.2.2.2.2.2.2.2.2.2.2.2.2.2.2.2.2.2.2.2.2.2.2.2.2.2.2.2.2.2.1, x.2.2.2.2.2.2.2.2.2.2.2.2.2.2.2.2.2.2.2.2.2.2.2.2.2.2.2.2.2.2.1, x.2.2.2.2.2.2.2.2.2.2.2.2.2.2.2.2.2.2.2.2.2.2.2.2.2.2.2.2.2.2.2.1, x.2.2.2.2.2.2.2.2.2.2.2.2.2.2.2.2.2.2.2.2.2.2.2.2.2.2.2.2.2.2.2.2⟩).2.2.1, .int .i64 (hearM ⟨x.1, ⟨x.2.1, x.2.2.1, x.2.2.2.1⟩, x.2.2.2.2.1, x.2.2.2.2.2.1, x.2.2.2.2.2.2.1, x.2.2.2.2.2.2.2.1, x.2.2.2.2.2.2.2.2.1⟩ ⟨x.2.2.2.2.2.2.2.2.2.1, x.2.2.2.2.2.2.2.2.2.2.1, x.2.2.2.2.2.2.2.2.2.2.2.1, x.2.2.2.2.2.2.2.2.2.2.2.2.1, x.2.2.2.2.2.2.2.2.2.2.2.2.2.1, ⟨x.2.2.2.2.2.2.2.2.2.2.2.2.2.2.1, x.2.2.2.2.2.2.2.2.2.2.2.2.2.2.2.1, x.2.2.2.2.2.2.2.2.2.2.2.2.2.2.2.2.1⟩, x.2.2.2.2.2.2.2.2.2.2.2.2.2.2.2.2.2.1, x.2.2.2.2.2.2.2.2.2.2.2.2.2.2.2.2.2.2.1, x.2.2.2.2.2.2.2.2.2.2.2.2.2.2.2.2.2.2.2.1, ⟨x.2.2.2.2.2.2.2.2.2.2.2.2.2.2.2.2.2.2.2.2.1, x.2.2.2.2.2.2.2.2.2.2.2.2.2.2.2.2.2.2.2.2.2.1, x.2.2.2.2.2.2.2.2.2.2.2.2.2.2.2.2.2.2.2.2.2.2.1, x.2.2.2.2.2.2.2.2.2.2.2.2.2.2.2.2.2.2.2.2.2.2.2.1, x.2.2.2.2.2.2.2.2.2.2.2.2.2.2.2.2.2.2.2.2.2.2.2.2.1, x.2.2.2.2.2.2.2.2.2.2.2.2.2.2.2.2.2.2.2.2.2.2.2.2.2.1, x.2.2.2.2.2.2.2.2.2.2.2.2.2.2.2.2.2.2.2.2.2.2.2.2.2.2.1, x.2.2.2.2.2.2.2.2.2.2.2.2.2.2.2.2.2.2.2.2.2.2.2.2.2.2.2.1⟩, x.2.2.2.2.2.2.2.2.2.2.2.2.2.2.2.2.2.2.2.2.2.2.2.2.2.2.2.2.1, x.2.2.2.2.2.2.2.2.2.2.2.2.2.2.2.2.2.2.2.2.2.2.2.2.2.2.2.2.2.1, x.2.2.2.2.2.2.2.2.2.2.2.2.2.2.2.2.2.2.2.2.2.2.2.2.2.2.2.2.2.2.1, x.2.2.2.2.2.2.2.2.2.2.2.2.2.2.2.2.2.2.2.2.2.2.2.2.2.2.2.2.2.2.2.1, x.2.2.2.2.2.2.2.2.2.2.2.2.2.2.2.2.2.2.2.2.2.2.2.2.2.2.2.2.2.2.2.2⟩).2.2.2]) fun x => x.2.2.2.2.2.2.2.2.1.length ≤ 1048576 ∧ x.2.2.2.2.2.2.2.2.2.2.2.2.2.2.2.2.2.2.2.2.2.2.2.2.2.2.2.2.2.2.2.2.length ≤ 1048576)
theorem E3s : OSound Try.prog E3 := E2s.tab fun x h st => hear_spec ⟨x.1, ⟨x.2.1, x.2.2.1, x.2.2.2.1⟩, x.2.2.2.2.1, x.2.2.2.2.2.1, x.2.2.2.2.2.2.1, x.2.2.2.2.2.2.2.1, x.2.2.2.2.2.2.2.2.1⟩ ⟨x.2.2.2.2.2.2.2.2.2.1, x.2.2.2.2.2.2.2.2.2.2.1, x.2.2.2.2.2.2.2.2.2.2.2.1, x.2.2.2.2.2.2.2.2.2.2.2.2.1, x.2.2.2.2.2.2.2.2.2.2.2.2.2.1, ⟨x.2.2.2.2.2.2.2.2.2.2.2.2.2.2.1, x.2.2.2.2.2.2.2.2.2.2.2.2.2.2.2.1, x.2.2.2.2.2.2.2.2.2.2.2.2.2.2.2.2.1⟩, x.2.2.2.2.2.2.2.2.2.2.2.2.2.2.2.2.2.1, x.2.2.2.2.2.2.2.2.2.2.2.2.2.2.2.2.2.2.1, x.2.2.2.2.2.2.2.2.2.2.2.2.2.2.2.2.2.2.2.1, ⟨x.2.2.2.2.2.2.2.2.2.2.2.2.2.2.2.2.2.2.2.2.1, x.2.2.2.2.2.2.2.2.2.2.2.2.2.2.2.2.2.2.2.2.2.1, x.2.2.2.2.2.2.2.2.2.2.2.2.2.2.2.2.2.2.2.2.2.2.1, x.2.2.2.2.2.2.2.2.2.2.2.2.2.2.2.2.2.2.2.2.2.2.2.1, x.2.2.2.2.2.2.2.2.2.2.2.2.2.2.2.2.2.2.2.2.2.2.2.2.1, x.2.2.2.2.2.2.2.2.2.2.2.2.2.2.2.2.2.2.2.2.2.2.2.2.2.1, x.2.2.2.2.2.2.2.2.2.2.2.2.2.2.2.2.2.2.2.2.2.2.2.2.2.2.1, x.2.2.2.2.2.2.2.2.2.2.2.2.2.2.2.2.2.2.2.2.2.2.2.2.2.2.2.1⟩, x.2.2.2.2.2.2.2.2.2.2.2.2.2.2.2.2.2.2.2.2.2.2.2.2.2.2.2.2.1, x.2.2.2.2.2.2.2.2.2.2.2.2.2.2.2.2.2.2.2.2.2.2.2.2.2.2.2.2.2.1, x.2.2.2.2.2.2.2.2.2.2.2.2.2.2.2.2.2.2.2.2.2.2.2.2.2.2.2.2.2.2.1, x.2.2.2.2.2.2.2.2.2.2.2.2.2.2.2.2.2.2.2.2.2.2.2.2.2.2.2.2.2.2.2.1, x.2.2.2.2.2.2.2.2.2.2.2.2.2.2.2.2.2.2.2.2.2.2.2.2.2.2.2.2.2.2.2.2⟩ h.1 h.2 st
@[simp] theorem E3_17 (p : Int) (a : Int) (b : Int) (c : Int) (s : Int) (t : Int) (f : Int) (n : Int) (l : List Vl) (xk : Int) (xfr : Int) (xto : Int) (xinc : Int) (xyo : Int) (xa : Int) (xb : Int) (xc : Int) (xn : Int) (xop : Int) (xbl : Int) (xv0 : UInt8) (xv1 : UInt8) (xv2 : UInt8) (xv3 : UInt8) (xv4 : UInt8) (xv5 : UInt8) (xv6 : UInt8) (xv7 : UInt8) (xe : Int) (xy : Bool) (xg : Int) (xt : Int) (xws : List Wr) (h : l.length ≤ 1048576 ∧ xws.length ≤ 1048576) : E3 17 [.agg [.int .i8 p, .int .i64 a, .int .i64 b, .int .i64 c, .int .i64 s, .int .i64 t, .int .i64 f, .int .i64 n, .sl .any (vls l)], .agg [.int .i8 xk, .int .i64 xfr, .int .i64 xto, .int .i64 xinc, .int .i64 xyo, .int .i64 xa, .int .i64 xb, .int .i64 xc, .int .i64 xn, .int .i8 xop, .int .i64 xbl, u8 xv0, u8 xv1, u8 xv2, u8 xv3, u8 xv4, u8 xv5, u8 xv6, u8 xv7, .int .i64 xe, .bool xy, .int .i64 xg, .int .i64 xt, .sl .any (wrs xws)]] = some (.tup [.agg (mvC (hearM ⟨p, ⟨a, b, c⟩, s, t, f, n, l⟩ ⟨xk, xfr, xto, xinc, xyo, ⟨xa, xb, xc⟩, xn, xop, xbl, ⟨xv0, xv1, xv2, xv3, xv4, xv5, xv6, xv7⟩, xe, xy, xg, xt, xws⟩).1), .sl .any (mss (hearM ⟨p, ⟨a, b, c⟩, s, t, f, n, l⟩ ⟨xk, xfr, xto, xinc, xyo, ⟨xa, xb, xc⟩, xn, xop, xbl, ⟨xv0, xv1, xv2, xv3, xv4, xv5, xv6, xv7⟩, xe, xy, xg, xt, xws⟩).2.1), .int .i8 (hearM ⟨p, ⟨a, b, c⟩, s, t, f, n, l⟩ ⟨xk, xfr, xto, xinc, xyo, ⟨xa, xb, xc⟩, xn, xop, xbl, ⟨xv0, xv1, xv2, xv3, xv4, xv5, xv6, xv7⟩, xe, xy, xg, xt, xws⟩).2.2.1, .int .i64 (hearM ⟨p, ⟨a, b, c⟩, s, t, f, n, l⟩ ⟨xk, xfr, xto, xinc, xyo, ⟨xa, xb, xc⟩, xn, xop, xbl, ⟨xv0, xv1, xv2, xv3, xv4, xv5, xv6, xv7⟩, xe, xy, xg, xt, xws⟩).2.2.2]) := by
  rw [E3, Orc.add_same]
  exact tab_eq (fun x y h => by simp at h; simp [h]) (x := (p, a, b, c, s, t, f, n, l, xk, xfr, xto, xinc, xyo, xa, xb, xc, xn, xop, xbl, xv0, xv1, xv2, xv3, xv4, xv5, xv6, xv7, xe, xy, xg, xt, xws)) h
@[simp] theorem E3_o (f : Nat) (args : List AV) (h : f ≠ 17) : E3 f args = E2 f args := by
  rw [E3, Orc.add_other _ _ _ _ _ h]
noncomputable def E4 : Orc := E3.add 19 (tab (fun x : Int × Int × Int × Int × Int × Int × Int × Int × List Vl => [.agg [.int .i8 x.1, .int .i64 x.2.1, .int .i64 x.2.2.1, .int .i64 x.2.2.2.1, .int .i64 x.2.2.2.2.1, .int .i64 x.2.2.2.2.2.1, .int .i64 x.2.2.2.2.2.2.1, .int .i64 x.2.2.2.2.2.2.2.1, .sl .any (vls x.2.2.2.2.2.2.2.2)]]) (fun x => .sl .any (wrs (writesM ⟨x.1, ⟨x.2.1, x.2.2.1, x.2.2.2.1⟩, x.2.2.2.2.1, x.2.2.2.2.2.1, x.2.2.2.2.2.2.1, x.2.2.2.2.2.2.2.1, x.2.2.2.2.2.2.2.2⟩))) fun x => x.2.2.2.2.2.2.2.2.length ≤ 1048576)
theorem E4s : OSound Try.prog E4 := E3s.tab fun x h st => writes_spec ⟨x.1, ⟨x.2.1, x.2.2.1, x.2.2.2.1⟩, x.2.2.2.2.1, x.2.2.2.2.2.1, x.2.2.2.2.2.2.1, x.2.2.2.2.2.2.2.1, x.2.2.2.2.2.2.2.2⟩ h st
@[simp] theorem E4_19 (p : Int) (a : Int) (b : Int) (c : Int) (s : Int) (t : Int) (f : Int) (n : Int) (l : List Vl) (h : l.length ≤ 1048576) : E4 19 [.agg [.int .i8 p, .int .i64 a, .int .i64 b, .int .i64 c, .int .i64 s, .int .i64 t, .int .i64 f, .int .i64 n, .sl .any (vls l)]] = some (.sl .any (wrs (writesM ⟨p, ⟨a, b, c⟩, s, t, f, n, l⟩))) := by
  rw [E4, Orc.add_same]
  exact tab_eq (fun x y h => by simp at h; simp [h]) (x := (p, a, b, c, s, t, f, n, l)) h
@[simp] theorem E4_o (f : Nat) (args : List AV) (h : f ≠ 19) : E4 f args = E3 f args := by
  rw [E4, Orc.add_other _ _ _ _ _ h]
noncomputable def E5 : Orc := E4.add 13 (tab (fun x : Int × Int × Int × Int × Int × Int => [.agg [.int .i8 0, .int .i64 0, .int .i64 0, .int .i64 0, .int .i64 0, .int .i64 0, .int .i64 0, .int .i64 0, .sl .any []], .agg [.int .i64 x.1, .int .i64 x.2.1], .int .i64 x.2.2.1, .agg [.int .i64 x.2.2.2.1, .int .i64 x.2.2.2.2.1, .int .i64 x.2.2.2.2.2]]) (fun x => .tup [.agg (mvC (beginM x.1 x.2.1 x.2.2.1 ⟨x.2.2.2.1, x.2.2.2.2.1, x.2.2.2.2.2⟩).1), .sl .any (mss (beginM x.1 x.2.1 x.2.2.1 ⟨x.2.2.2.1, x.2.2.2.2.1, x.2.2.2.2.2⟩).2.1), .int .i64 (beginM x.1 x.2.1 x.2.2.1 ⟨x.2.2.2.1, x.2.2.2.2.1, x.2.2.2.2.2⟩).2.2]) fun x => True)
theorem E5s : OSound Try.prog E5 := E4s.tab fun x h st => begin_spec x.1 x.2.1 x.2.2.1 ⟨x.2.2.2.1, x.2.2.2.2.1, x.2.2.2.2.2⟩ st
@[simp] theorem E5_13 (s : Int) (t : Int) (f : Int) (a : Int) (b : Int) (c : Int) : E5 13 [.agg [.int .i8 0, .int .i64 0, .int .i64 0, .int .i64 0, .int .i64 0, .int .i64 0, .int .i64 0, .int .i64 0, .sl .any []], .agg [.int .i64 s, .int .i64 t], .int .i64 f, .agg [.int .i64 a, .int .i64 b, .int .i64 c]] = some (.tup [.agg (mvC (beginM s t f ⟨a, b, c⟩).1), .sl .any (mss (beginM s t f ⟨a, b, c⟩).2.1), .int .i64 (beginM s t f ⟨a, b, c⟩).2.2]) := by
  rw [E5, Orc.add_same]
  exact tab_eq (fun x y h => by simp at h; simp [h]) (x := (s, t, f, a, b, c)) trivial
@[simp] theorem E5_o (f : Nat) (args : List AV) (h : f ≠ 13) : E5 f args = E4 f args := by
  rw [E5, Orc.add_other _ _ _ _ _ h]
theorem mgreat_spec (m : Mv) (st : St) : ASpec Try.prog 20 [.agg (mvC m)] st fun v st' => v = .bool (decide (40 < m.vals.length)) ∧ st' = st := by
  refine pure_of (R := fun v => v = _) E5s F20 rfl ?_
  simp (disch := first | omega | (simp only [List.length_take, List.length_drop, List.length_append, List.length_cons, List.length_nil, List.length_map]; omega)) [IntWalk.i64_in, IntWalk.i64_quo, c20]
  constructor <;> intro h <;> omega
def vB (b : UInt8) : Vl := ⟨b, 0, 0, 0, 0, 0, 0, 0⟩
def w0 : Mv := ⟨1, ⟨4, 1, 1⟩, 2, 3, 1, 1, []⟩
def w1 : Mv := ⟨1, ⟨4, 1, 1⟩, 2, 3, 1, 2, [vB 1]⟩
def w2 : Mv := ⟨1, ⟨4, 1, 1⟩, 2, 3, 1, 3, [vB 1, vB 2]⟩
def w3 : Mv := ⟨1, ⟨4, 1, 1⟩, 2, 3, 1, 4, [vB 1, vB 2, vB 3]⟩
def w4 : Mv := ⟨2, ⟨4, 1, 1⟩, 2, 3, 1, 4, [vB 1, vB 2, vB 3, vB 4]⟩
theorem begin_w : beginM 2 3 1 ⟨4, 1, 1⟩ = (w0, [askM w0], 0) := by decide +kernel
theorem hear_w0 : hearM w0 (didM 1 0 1) = (w1, [askM w1], 0, 0) := by decide +kernel
theorem hear_w1 : hearM w1 (didM 2 0 2) = (w2, [askM w2], 0, 0) := by decide +kernel
theorem hear_w2 : hearM w2 (didM 3 0 3) = (w3, [askM w3], 0, 0) := by decide +kernel
theorem hear_w3 : hearM w3 (didM 4 0 4) = (w4, [], 1, 0) := by decide +kernel
theorem hear_wk : hearM w0 (didM 1 120 0) = (zMv, [], 2, 0) := by decide +kernel
theorem writes_w : writesM w4 = [⟨8, 1, 0, 0, 0, 0, 0, 0, 0⟩, ⟨9, 2, 0, 0, 0, 0, 0, 0, 0⟩, ⟨10, 3, 0, 0, 0, 0, 0, 0, 0⟩, ⟨11, 4, 0, 0, 0, 0, 0, 0, 0⟩] := by decide +kernel
theorem ask_w0 : (askM w0).block = 8 ∧ (askM w0).op = 2 := by decide +kernel
theorem len_w : w0.vals.length ≤ 1048576 ∧ w1.vals.length ≤ 1048576 ∧ w2.vals.length ≤ 1048576 ∧ w3.vals.length ≤ 1048576 ∧ w4.vals.length ≤ 1048576 := by decide +kernel
theorem E2_59z (n e : Int) : E2 59 [.int .i64 n, .int .i64 e, .int .u8 0] = some (.agg (msC (didM n e 0))) := E2_59 n e 0
theorem did_wl (n e : Int) (b : UInt8) : (didM n e b).ws.length ≤ 1048576 := by simp [didM]
theorem isMslM (b : UInt8) : Go.Am.isMsl.match_1 (motive := fun _ => Bool) (u8 b) (fun _ _ _ _ => true) (fun _ => false) = false := (rfl)
attribute [irreducible] w0 w1 w2 w3 w4 didM
attribute [local irreducible] askM
theorem mwakes_spec (st : St) : ASpec Try.prog 12 [] st fun v st' => v = .bool true ∧ st' = st := by
  refine pure_of (R := fun v => v = _) E5s F12 rfl ?_
  obtain ⟨l0, l1, l2, l3, l4⟩ := len_w
  have hq : binA .eql .none (u8 2) (.int .u8 2) = some (.bool true) := rfl
  have o2 : UInt8.ofInt 2 = 2 := rfl
  have o3 : UInt8.ofInt 3 = 3 := rfl
  have o4 : UInt8.ofInt 4 = 4 := rfl
  have d1 := did_wl 1 0 1
  have d2 := did_wl 2 0 2
  have d3 := did_wl 3 0 3
  have d4 := did_wl 4 0 4
  have d5 := did_wl 1 120 0
  simp (disch := first | omega | (simp only [List.length_take, List.length_drop, List.length_append, List.length_cons, List.length_nil, List.length_map]; omega)) [IntWalk.i64_in, IntWalk.i64_quo, c12, begin_w]
  refine awC_loopU 5 ?_
  simp (disch := first | omega | (simp only [List.length_take, List.length_drop, List.length_append, List.length_cons, List.length_nil, List.length_map]; omega)) [IntWalk.i64_in, IntWalk.i64_quo]
  refine region_static rfl (by decide +kernel) ?_
  simp (disch := first | omega | (simp only [List.length_take, List.length_drop, List.length_append, List.length_cons, List.length_nil, List.length_map]; omega)) [IntWalk.i64_in, IntWalk.i64_quo, l0, l1, l2, l3, l4, hq, E2_59z, o2, o3, o4, isMslM, hear_w0, hear_w1, hear_w2, hear_w3, hear_wk, begin_w, writes_w, ask_w0, mss]
  refine region_static rfl (by decide +kernel) ?_
  simp (disch := first | omega | (simp only [List.length_take, List.length_drop, List.length_append, List.length_cons, List.length_nil, List.length_map]; omega)) [IntWalk.i64_in, IntWalk.i64_quo, l0, l1, l2, l3, l4, hq, E2_59z, o2, o3, o4, isMslM, hear_w0, hear_w1, hear_w2, hear_w3, hear_wk, begin_w, writes_w, ask_w0, mss]
  refine region_static rfl (by decide +kernel) ?_
  simp (disch := first | omega | (simp only [List.length_take, List.length_drop, List.length_append, List.length_cons, List.length_nil, List.length_map]; omega)) [IntWalk.i64_in, IntWalk.i64_quo, l0, l1, l2, l3, l4, hq, E2_59z, o2, o3, o4, isMslM, hear_w0, hear_w1, hear_w2, hear_w3, hear_wk, begin_w, writes_w, ask_w0, mss]
  refine region_static rfl (by decide +kernel) ?_
  simp (disch := first | omega | (simp only [List.length_take, List.length_drop, List.length_append, List.length_cons, List.length_nil, List.length_map]; omega)) [IntWalk.i64_in, IntWalk.i64_quo, l0, l1, l2, l3, l4, hq, E2_59z, o2, o3, o4, isMslM, hear_w0, hear_w1, hear_w2, hear_w3, hear_wk, begin_w, writes_w, ask_w0, mss]
  refine region_static rfl (by decide +kernel) ?_
  simp (disch := first | omega | (simp only [List.length_take, List.length_drop, List.length_append, List.length_cons, List.length_nil, List.length_map]; omega)) [IntWalk.i64_in, IntWalk.i64_quo, l0, l1, l2, l3, l4, hq, E2_59z, o2, o3, o4, isMslM, hear_w0, hear_w1, hear_w2, hear_w3, hear_wk, begin_w, writes_w, ask_w0, mss]
noncomputable def E6 : Orc := E5.add 12 (tab (fun x : Unit => []) (fun x => .bool true) fun x => True)
theorem E6s : OSound Try.prog E6 := E5s.tab fun x h st => mwakes_spec st
@[simp] theorem E6_12  : E6 12 [] = some (.bool true) := by
  rw [E6, Orc.add_same]
  exact tab_eq (fun x y h => by rfl) (x := ()) trivial
@[simp] theorem E6_o (f : Nat) (args : List AV) (h : f ≠ 12) : E6 f args = E5 f args := by
  rw [E6, Orc.add_other _ _ _ _ _ h]
noncomputable def E7 : Orc := E6.add 20 (tab (fun x : Int × Int × Int × Int × Int × Int × Int × Int × List Vl => [.agg [.int .i8 x.1, .int .i64 x.2.1, .int .i64 x.2.2.1, .int .i64 x.2.2.2.1, .int .i64 x.2.2.2.2.1, .int .i64 x.2.2.2.2.2.1, .int .i64 x.2.2.2.2.2.2.1, .int .i64 x.2.2.2.2.2.2.2.1, .sl .any (vls x.2.2.2.2.2.2.2.2)]]) (fun x => .bool (decide (40 < x.2.2.2.2.2.2.2.2.length))) fun x => True)
theorem E7s : OSound Try.prog E7 := E6s.tab fun x h st => mgreat_spec ⟨x.1, ⟨x.2.1, x.2.2.1, x.2.2.2.1⟩, x.2.2.2.2.1, x.2.2.2.2.2.1, x.2.2.2.2.2.2.1, x.2.2.2.2.2.2.2.1, x.2.2.2.2.2.2.2.2⟩ st
@[simp] theorem E7_20 (p : Int) (a : Int) (b : Int) (c : Int) (s : Int) (t : Int) (f : Int) (n : Int) (l : List Vl) : E7 20 [.agg [.int .i8 p, .int .i64 a, .int .i64 b, .int .i64 c, .int .i64 s, .int .i64 t, .int .i64 f, .int .i64 n, .sl .any (vls l)]] = some (.bool (decide (40 < l.length))) := by
  rw [E7, Orc.add_same]
  exact tab_eq (fun x y h => by simp at h; simp [h]) (x := (p, a, b, c, s, t, f, n, l)) trivial
@[simp] theorem E7_o (f : Nat) (args : List AV) (h : f ≠ 20) : E7 f args = E6 f args := by
  rw [E7, Orc.add_other _ _ _ _ _ h]
theorem lticks_spec (m : Mv) (st : St) : ASpec Try.prog 4 [.agg (mvC m)] st fun v st' => v = .bool true ∧ st' = st := by
  refine pure_of (R := fun v => v = _) E7s F4 rfl ?_
  obtain ⟨p, nm, s, t, f, n, l⟩ := m
  by_cases hg : 40 < l.length
  · simp (disch := first | omega | (simp only [List.length_take, List.length_drop, List.length_append, List.length_cons, List.length_nil, List.length_map]; omega)) [IntWalk.i64_in, IntWalk.i64_quo, c4, hg]
  have hl : l.length ≤ 1048576 := by omega
  by_cases hc : checkM ⟨p, nm, s, t, f, n, l⟩ = true
  case neg =>
    have ht : tickM ⟨p, nm, s, t, f, n, l⟩ = (zMv, [], 2) := by rw [tickM, if_neg hc]
    simp (disch := first | omega | (simp only [List.length_take, List.length_drop, List.length_append, List.length_cons, List.length_nil, List.length_map]; omega)) [IntWalk.i64_in, IntWalk.i64_quo, c4, hg, hl, ht, hc, eOf, mss]
  by_cases hp : p = 1
  case neg =>
    have ht : tickM ⟨p, nm, s, t, f, n, l⟩ = (⟨p, nm, s, t, f, n, l⟩, [], 0) := by rw [tickM, if_pos hc, if_neg hp]
    have hw : (writesM ⟨p, nm, s, t, f, n, l⟩).length = 0 ↔ ¬ p = 2 := by
      unfold writesM
      by_cases h2 : p = 2
      · obtain ⟨_, _, k3⟩ := check_2 hc h2
        rw [if_pos ⟨hc, h2⟩]
        simp only at k3
        simp [h2]
        intro h
        rw [h] at k3
        simp at k3
      · rw [if_neg (fun h => h2 h.2)]
        simp [h2]
    simp (disch := first | omega | (simp only [List.length_take, List.length_drop, List.length_append, List.length_cons, List.length_nil, List.length_map]; omega)) [IntWalk.i64_in, IntWalk.i64_quo, c4, hg, hl, ht, hc, eOf, mss, hp]
    refine awC_loopU 1 ?_
    simp (disch := first | omega | (simp only [List.length_take, List.length_drop, List.length_append, List.length_cons, List.length_nil, List.length_map]; omega)) [IntWalk.i64_in, IntWalk.i64_quo]
    refine region_static rfl (by decide +kernel) ?_
    by_cases h2 : p = 2
    · have hw' : ¬ (writesM ⟨p, nm, s, t, f, n, l⟩).length = 0 := fun h => hw.1 h h2
      subst h2
      simp (disch := first | omega | (simp only [List.length_take, List.length_drop, List.length_append, List.length_cons, List.length_nil, List.length_map]; omega)) [IntWalk.i64_in, IntWalk.i64_quo, hl, hw']
    · have hw' := hw.2 h2
      simp (disch := first | omega | (simp only [List.length_take, List.length_drop, List.length_append, List.length_cons, List.length_nil, List.length_map]; omega)) [IntWalk.i64_in, IntWalk.i64_quo, hl, hw', h2]
  subst hp
  obtain ⟨k1, k2, k3⟩ := check_n hc rfl
  have ht : tickM ⟨1, nm, s, t, f, n, l⟩ = (⟨1, nm, s, t, f, n, l⟩, [askM ⟨1, nm, s, t, f, n, l⟩], 0) := by rw [tickM, if_pos hc, if_pos rfl]
  have hw : writesM ⟨1, nm, s, t, f, n, l⟩ = [] := by rw [writesM, if_neg (by simp)]
  simp only at k2 k3
  simp (disch := first | omega | (simp only [List.length_take, List.length_drop, List.length_append, List.length_cons, List.length_nil, List.length_map]; omega)) [IntWalk.i64_in, IntWalk.i64_quo, c4, hg, hl, ht, hc, eOf, mss, hw]
  refine awC_loopU 2 ?_
  simp (disch := first | omega | (simp only [List.length_take, List.length_drop, List.length_append, List.length_cons, List.length_nil, List.length_map]; omega)) [IntWalk.i64_in, IntWalk.i64_quo, askM, hl, hw, k3]
  refine region_static rfl (by decide +kernel) ?_
  simp (disch := first | omega | (simp only [List.length_take, List.length_drop, List.length_append, List.length_cons, List.length_nil, List.length_map]; omega)) [IntWalk.i64_in, IntWalk.i64_quo, hl, hw]
end Go.Proofs.Ytjceilhmgbdgiaa

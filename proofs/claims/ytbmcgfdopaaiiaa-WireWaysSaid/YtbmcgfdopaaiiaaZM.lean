/- Epochs: what a node knows. -/
import Derived.Test.YtbmcgfdopaaiiaaZL
set_option linter.all false
namespace Go.Proofs.Ytbmcgfdopaaiiaa
open Go.Am

structure Kn where
  node : Int
  inc : Int
  o0 : Int
  o1 : Int
  o2 : Int
  o3 : Int
  o4 : Int
  deriving DecidableEq
@[simp] def knC (k : Kn) : List AV := [.int .i64 k.node, .int .i64 k.inc, .int .i64 k.o0, .int .i64 k.o1, .int .i64 k.o2, .int .i64 k.o3, .int .i64 k.o4]
@[simp] theorem kn_eta (k : Kn) : Kn.mk k.node k.inc k.o0 k.o1 k.o2 k.o3 k.o4 = k := rfl
theorem kn_eq (a b : Kn) : a = b ↔ a.node = b.node ∧ a.inc = b.inc ∧ a.o0 = b.o0 ∧ a.o1 = b.o1 ∧ a.o2 = b.o2 ∧ a.o3 = b.o3 ∧ a.o4 = b.o4 := by
  cases a; cases b; simp
def getK (k : Kn) (i : Int) : Int := if i = 0 then k.o0 else if i = 1 then k.o1 else if i = 2 then k.o2 else if i = 3 then k.o3 else k.o4
def setK (k : Kn) (i v : Int) : Kn := if i = 0 then { k with o0 := v } else if i = 1 then { k with o1 := v } else if i = 2 then { k with o2 := v } else if i = 3 then { k with o3 := v } else { k with o4 := v }
def mayK (k : Kn) : Bool := within k.o0 0 1048576 && within k.o1 0 1048576 && within k.o2 0 1048576 && within k.o3 0 1048576 && within k.o4 0 1048576 && within k.node 0 4 && within k.inc 1 1048576
theorem mayK_spec (k : Kn) (st : St) : ASpec Try.prog 9 [.agg (knC k)] st fun v st' => v = .bool (mayK k) ∧ st' = st := by
  refine pure_of (R := fun v => v = _) C4s F9 rfl ?_
  simp (disch := first | omega | (simp only [List.length_take, List.length_drop, List.length_append, List.length_cons, List.length_nil, List.length_map]; omega)) [IntWalk.i64_in, IntWalk.i64_quo, c9]
  refine awC_loopU 6 ?_
  simp (disch := first | omega | (simp only [List.length_take, List.length_drop, List.length_append, List.length_cons, List.length_nil, List.length_map]; omega)) [IntWalk.i64_in, IntWalk.i64_quo]
  repeat' first
    | (refine region_static rfl (by decide +kernel) ?_; try simp (disch := first | omega | (simp only [List.length_take, List.length_drop, List.length_append, List.length_cons, List.length_nil, List.length_map]; omega)) [IntWalk.i64_in, IntWalk.i64_quo])
    | (refine And.intro (by omega) ?_; try simp (disch := first | omega | (simp only [List.length_take, List.length_drop, List.length_append, List.length_cons, List.length_nil, List.length_map]; omega)) [IntWalk.i64_in, IntWalk.i64_quo])
    | (refine guardK_ndec (fun h => ?_) (fun h => ?_) <;> (try simp (disch := first | omega | (simp only [List.length_take, List.length_drop, List.length_append, List.length_cons, List.length_nil, List.length_map]; omega)) [h, IntWalk.i64_in, IntWalk.i64_quo]))
    | (refine guardK_dec (fun h => ?_) (fun h => ?_) <;> (try simp (disch := first | omega | (simp only [List.length_take, List.length_drop, List.length_append, List.length_cons, List.length_nil, List.length_map]; omega)) [h, IntWalk.i64_in, IntWalk.i64_quo]))
    | (refine guardK_nbeq (fun h => ?_) (fun h => ?_) <;> (try simp (disch := first | omega | (simp only [List.length_take, List.length_drop, List.length_append, List.length_cons, List.length_nil, List.length_map]; omega)) [h, IntWalk.i64_in, IntWalk.i64_quo]))
    | (refine guardK_beq (fun h => ?_) (fun h => ?_) <;> (try simp (disch := first | omega | (simp only [List.length_take, List.length_drop, List.length_append, List.length_cons, List.length_nil, List.length_map]; omega)) [h, IntWalk.i64_in, IntWalk.i64_quo]))
    | (refine guardK_bne (fun h => ?_) (fun h => ?_) <;> (try simp (disch := first | omega | (simp only [List.length_take, List.length_drop, List.length_append, List.length_cons, List.length_nil, List.length_map]; omega)) [h, IntWalk.i64_in, IntWalk.i64_quo]))
    | (refine guardK_not (fun h => ?_) (fun h => ?_) <;> (try simp (disch := first | omega | (simp only [List.length_take, List.length_drop, List.length_append, List.length_cons, List.length_nil, List.length_map]; omega)) [h, IntWalk.i64_in, IntWalk.i64_quo]))
    | (refine guardK_split (fun h => ?_) (fun h => ?_) <;> (try simp (disch := first | omega | (simp only [List.length_take, List.length_drop, List.length_append, List.length_cons, List.length_nil, List.length_map]; omega)) [h, IntWalk.i64_in, IntWalk.i64_quo]))
    | (refine condK_ndec (fun h => ?_) (fun h => ?_) <;> (try simp (disch := first | omega | (simp only [List.length_take, List.length_drop, List.length_append, List.length_cons, List.length_nil, List.length_map]; omega)) [h, IntWalk.i64_in, IntWalk.i64_quo]))
    | (refine condK_dec (fun h => ?_) (fun h => ?_) <;> (try simp (disch := first | omega | (simp only [List.length_take, List.length_drop, List.length_append, List.length_cons, List.length_nil, List.length_map]; omega)) [h, IntWalk.i64_in, IntWalk.i64_quo]))
    | (refine condK_nbeq (fun h => ?_) (fun h => ?_) <;> (try simp (disch := first | omega | (simp only [List.length_take, List.length_drop, List.length_append, List.length_cons, List.length_nil, List.length_map]; omega)) [h, IntWalk.i64_in, IntWalk.i64_quo]))
    | (refine condK_beq (fun h => ?_) (fun h => ?_) <;> (try simp (disch := first | omega | (simp only [List.length_take, List.length_drop, List.length_append, List.length_cons, List.length_nil, List.length_map]; omega)) [h, IntWalk.i64_in, IntWalk.i64_quo]))
    | (refine condK_bne (fun h => ?_) (fun h => ?_) <;> (try simp (disch := first | omega | (simp only [List.length_take, List.length_drop, List.length_append, List.length_cons, List.length_nil, List.length_map]; omega)) [h, IntWalk.i64_in, IntWalk.i64_quo]))
    | (refine condK_not (fun h => ?_) (fun h => ?_) <;> (try simp (disch := first | omega | (simp only [List.length_take, List.length_drop, List.length_append, List.length_cons, List.length_nil, List.length_map]; omega)) [h, IntWalk.i64_in, IntWalk.i64_quo]))
    | (refine condK_split (fun h => ?_) (fun h => ?_) <;> (try simp (disch := first | omega | (simp only [List.length_take, List.length_drop, List.length_append, List.length_cons, List.length_nil, List.length_map]; omega)) [h, IntWalk.i64_in, IntWalk.i64_quo]))
  all_goals (simp [mayK, *])
theorem mayK_eq (k : Kn) : mayK k = (within k.o0 0 1048576 && within k.o1 0 1048576 && within k.o2 0 1048576 && within k.o3 0 1048576 && within k.o4 0 1048576 && within k.node 0 4 && within k.inc 1 1048576) := rfl
attribute [irreducible] mayK
noncomputable def C5 : Orc := C4.add 9 (tab (fun x : Int × Int × Int × Int × Int × Int × Int => [.agg [.int .i64 x.1, .int .i64 x.2.1, .int .i64 x.2.2.1, .int .i64 x.2.2.2.1, .int .i64 x.2.2.2.2.1, .int .i64 x.2.2.2.2.2.1, .int .i64 x.2.2.2.2.2.2]]) (fun x => .bool (mayK ⟨x.1, x.2.1, x.2.2.1, x.2.2.2.1, x.2.2.2.2.1, x.2.2.2.2.2.1, x.2.2.2.2.2.2⟩)) fun x => True)
theorem C5s : OSound Try.prog C5 := C4s.tab fun x h st => mayK_spec ⟨x.1, x.2.1, x.2.2.1, x.2.2.2.1, x.2.2.2.2.1, x.2.2.2.2.2.1, x.2.2.2.2.2.2⟩ st
@[simp] theorem C5_9 (nd : Int) (ic : Int) (a0 : Int) (a1 : Int) (a2 : Int) (a3 : Int) (a4 : Int) : C5 9 [.agg [.int .i64 nd, .int .i64 ic, .int .i64 a0, .int .i64 a1, .int .i64 a2, .int .i64 a3, .int .i64 a4]] = some (.bool (mayK ⟨nd, ic, a0, a1, a2, a3, a4⟩)) := by
  rw [C5, Orc.add_same]
  exact tab_eq (fun x y h => by simp at h; simp [h]) (x := (nd, ic, a0, a1, a2, a3, a4)) trivial
@[simp] theorem C5_o (f : Nat) (args : List AV) (h : f ≠ 9) : C5 f args = C4 f args := by
  rw [C5, Orc.add_other _ _ _ _ _ h]
def newK (nd ic : Int) : Kn × Int := if mayK ⟨nd, ic, 0, 0, 0, 0, 0⟩ = true then (⟨nd, ic, 0, 0, 0, 0, 0⟩, 0) else (⟨0, 0, 0, 0, 0, 0, 0⟩, 2)
theorem new_spec (nd ic : Int) (st : St) : ASpec Try.prog 24 [.int .i64 nd, .int .i64 ic] st fun v st' => v = .tup [.agg (knC (newK nd ic).1), .int .i64 (newK nd ic).2] ∧ st' = st := by
  refine pure_of (R := fun v => v = _) C5s F24 rfl ?_
  cases h : mayK ⟨nd, ic, 0, 0, 0, 0, 0⟩
  · simp (disch := first | omega | (simp only [List.length_take, List.length_drop, List.length_append, List.length_cons, List.length_nil, List.length_map]; omega)) [IntWalk.i64_in, IntWalk.i64_quo, c24, h]
    simp [newK, h]
  · simp (disch := first | omega | (simp only [List.length_take, List.length_drop, List.length_append, List.length_cons, List.length_nil, List.length_map]; omega)) [IntWalk.i64_in, IntWalk.i64_quo, c24, h]
    simp [newK, h]
noncomputable def C6 : Orc := C5.add 24 (tab (fun x : Int × Int => [.int .i64 x.1, .int .i64 x.2]) (fun x => .tup [.agg (knC (newK x.1 x.2).1), .int .i64 (newK x.1 x.2).2]) fun x => True)
theorem C6s : OSound Try.prog C6 := C5s.tab fun x h st => new_spec x.1 x.2 st
@[simp] theorem C6_24 (nd : Int) (ic : Int) : C6 24 [.int .i64 nd, .int .i64 ic] = some (.tup [.agg (knC (newK nd ic).1), .int .i64 (newK nd ic).2]) := by
  rw [C6, Orc.add_same]
  exact tab_eq (fun x y h => by simp at h; simp [h]) (x := (nd, ic)) trivial
@[simp] theorem C6_o (f : Nat) (args : List AV) (h : f ≠ 24) : C6 f args = C5 f args := by
  rw [C6, Orc.add_other _ _ _ _ _ h]
def pingM (n : Int) : Ms := ⟨1, 0, 1, n, 0, ⟨0, 0, 0⟩, 0, 0, 0, zV, 0, false, 0, 0, []⟩
theorem ping_spec (n : Int) (st : St) : ASpec Try.prog 25 [.int .i64 n] st fun v st' => v = .agg (msC (pingM n)) ∧ st' = st := by
  refine pure_of (R := fun v => v = _) C6s F25 rfl ?_
  simp (disch := first | omega | (simp only [List.length_take, List.length_drop, List.length_append, List.length_cons, List.length_nil, List.length_map]; omega)) [IntWalk.i64_in, IntWalk.i64_quo, c25]
  simp [pingM, zV, u8]
noncomputable def C7 : Orc := C6.add 25 (tab (fun x : Int => [.int .i64 x]) (fun x => .agg (msC (pingM x))) fun x => True)
theorem C7s : OSound Try.prog C7 := C6s.tab fun x h st => ping_spec x st
@[simp] theorem C7_25 (n : Int) : C7 25 [.int .i64 n] = some (.agg (msC (pingM n))) := by
  rw [C7, Orc.add_same]
  exact tab_eq (fun x y h => by simp at h; simp [h]) (x := (n)) trivial
@[simp] theorem C7_o (f : Nat) (args : List AV) (h : f ≠ 25) : C7 f args = C6 f args := by
  rw [C7, Orc.add_other _ _ _ _ _ h]
def hearN (k : Kn) (m : Ms) : Int := if m.inc < getK k m.fr ∨ m.your ≠ 0 ∧ m.your ≠ k.inc then 0 else if m.inc = getK k m.fr then 1 else if getK k m.fr = 0 then 2 else 3
def hearK (k : Kn) (m : Ms) : Kn := if 2 ≤ hearN k m then setK k m.fr m.inc else k
def kB' (k : Kn) : Blk := .cells false (knC k)
theorem hear_spec {k : Kn} {m : Ms} {g l : Nat} {st : St} (hfr : 0 ≤ m.fr ∧ m.fr ≤ 4) (hne : g ≠ l) (hg : st.heap[g]? = some (kB' k)) (hl : st.heap[l]? = some (mB m)) : ASpec Try.prog 26 [.ptr g 0, .ptr l 0] st fun v st' => v = .int .i8 (hearN k m) ∧ st' = ⟨st.heap.set g (kB' (hearK k m)), st.toks⟩ := by
  refine raw_of C7s F26 rfl ?_
  have hM : mB m = .cells false (msC m) := rfl
  have hK : ∀ k, kB' k = .cells false (knC k) := fun _ => rfl
  have hsame : st.heap.set g (kB' k) = st.heap := set_same hg
  rw [hM] at hl
  rw [hK] at hg
  have one : ∀ v : AV, Go.Am.one [v] = v := fun _ => rfl
  obtain hc | hc | hc | hc | hc : m.fr = 0 ∨ m.fr = 1 ∨ m.fr = 2 ∨ m.fr = 3 ∨ m.fr = 4 := by omega
  all_goals
    obtain ⟨was, hwas⟩ : ∃ was, getK k m.fr = was := ⟨_, rfl⟩
    have hw := hwas
    simp [getK, hc] at hw
    simp (disch := first | omega | (simp only [List.length_take, List.length_drop, List.length_append, List.length_cons, List.length_nil, List.length_map]; omega)) [IntWalk.i64_in, IntWalk.i64_quo, c26]
    refine region_static rfl (by decide +kernel) ?_
    simp (disch := first | omega | (simp only [List.length_take, List.length_drop, List.length_append, List.length_cons, List.length_nil, List.length_map]; omega)) [IntWalk.i64_in, IntWalk.i64_quo, hl, hg, hc, hw]
    repeat' first
      | (refine region_static rfl (by decide +kernel) ?_; try simp (disch := first | omega | (simp only [List.length_take, List.length_drop, List.length_append, List.length_cons, List.length_nil, List.length_map]; omega)) [IntWalk.i64_in, IntWalk.i64_quo, hl, hg, hc, hw])
      | (refine And.intro (by omega) ?_; try simp (disch := first | omega | (simp only [List.length_take, List.length_drop, List.length_append, List.length_cons, List.length_nil, List.length_map]; omega)) [IntWalk.i64_in, IntWalk.i64_quo, hl, hg, hc, hw])
      | (refine guardK_ndec (fun h => ?_) (fun h => ?_) <;> (try simp (disch := first | omega | (simp only [List.length_take, List.length_drop, List.length_append, List.length_cons, List.length_nil, List.length_map]; omega)) [h, IntWalk.i64_in, IntWalk.i64_quo, hl, hg, hc, hw]))
      | (refine guardK_dec (fun h => ?_) (fun h => ?_) <;> (try simp (disch := first | omega | (simp only [List.length_take, List.length_drop, List.length_append, List.length_cons, List.length_nil, List.length_map]; omega)) [h, IntWalk.i64_in, IntWalk.i64_quo, hl, hg, hc, hw]))
      | (refine guardK_nbeq (fun h => ?_) (fun h => ?_) <;> (try simp (disch := first | omega | (simp only [List.length_take, List.length_drop, List.length_append, List.length_cons, List.length_nil, List.length_map]; omega)) [h, IntWalk.i64_in, IntWalk.i64_quo, hl, hg, hc, hw]))
      | (refine guardK_beq (fun h => ?_) (fun h => ?_) <;> (try simp (disch := first | omega | (simp only [List.length_take, List.length_drop, List.length_append, List.length_cons, List.length_nil, List.length_map]; omega)) [h, IntWalk.i64_in, IntWalk.i64_quo, hl, hg, hc, hw]))
      | (refine guardK_bne (fun h => ?_) (fun h => ?_) <;> (try simp (disch := first | omega | (simp only [List.length_take, List.length_drop, List.length_append, List.length_cons, List.length_nil, List.length_map]; omega)) [h, IntWalk.i64_in, IntWalk.i64_quo, hl, hg, hc, hw]))
      | (refine guardK_not (fun h => ?_) (fun h => ?_) <;> (try simp (disch := first | omega | (simp only [List.length_take, List.length_drop, List.length_append, List.length_cons, List.length_nil, List.length_map]; omega)) [h, IntWalk.i64_in, IntWalk.i64_quo, hl, hg, hc, hw]))
      | (refine guardK_split (fun h => ?_) (fun h => ?_) <;> (try simp (disch := first | omega | (simp only [List.length_take, List.length_drop, List.length_append, List.length_cons, List.length_nil, List.length_map]; omega)) [h, IntWalk.i64_in, IntWalk.i64_quo, hl, hg, hc, hw]))
      | (refine condK_ndec (fun h => ?_) (fun h => ?_) <;> (try simp (disch := first | omega | (simp only [List.length_take, List.length_drop, List.length_append, List.length_cons, List.length_nil, List.length_map]; omega)) [h, IntWalk.i64_in, IntWalk.i64_quo, hl, hg, hc, hw]))
      | (refine condK_dec (fun h => ?_) (fun h => ?_) <;> (try simp (disch := first | omega | (simp only [List.length_take, List.length_drop, List.length_append, List.length_cons, List.length_nil, List.length_map]; omega)) [h, IntWalk.i64_in, IntWalk.i64_quo, hl, hg, hc, hw]))
      | (refine condK_nbeq (fun h => ?_) (fun h => ?_) <;> (try simp (disch := first | omega | (simp only [List.length_take, List.length_drop, List.length_append, List.length_cons, List.length_nil, List.length_map]; omega)) [h, IntWalk.i64_in, IntWalk.i64_quo, hl, hg, hc, hw]))
      | (refine condK_beq (fun h => ?_) (fun h => ?_) <;> (try simp (disch := first | omega | (simp only [List.length_take, List.length_drop, List.length_append, List.length_cons, List.length_nil, List.length_map]; omega)) [h, IntWalk.i64_in, IntWalk.i64_quo, hl, hg, hc, hw]))
      | (refine condK_bne (fun h => ?_) (fun h => ?_) <;> (try simp (disch := first | omega | (simp only [List.length_take, List.length_drop, List.length_append, List.length_cons, List.length_nil, List.length_map]; omega)) [h, IntWalk.i64_in, IntWalk.i64_quo, hl, hg, hc, hw]))
      | (refine condK_not (fun h => ?_) (fun h => ?_) <;> (try simp (disch := first | omega | (simp only [List.length_take, List.length_drop, List.length_append, List.length_cons, List.length_nil, List.length_map]; omega)) [h, IntWalk.i64_in, IntWalk.i64_quo, hl, hg, hc, hw]))
      | (refine condK_split (fun h => ?_) (fun h => ?_) <;> (try simp (disch := first | omega | (simp only [List.length_take, List.length_drop, List.length_append, List.length_cons, List.length_nil, List.length_map]; omega)) [h, IntWalk.i64_in, IntWalk.i64_quo, hl, hg, hc, hw]))
    all_goals
      clear hM hl hg hfr
      refine .inl ⟨by simp, Nat.le_refl _, ?_, ?_⟩
      · show AV.int .i8 _ = AV.int .i8 _
        congr 1
        simp only [hearN, hwas]
        (repeat' split) <;> omega
      · rw [hearK]
        split
        · first
            | (simp [setK, hc, hK]; done)
            | (exfalso; rename_i h2; simp only [hearN, hwas] at h2; (repeat' split at h2) <;> omega)
        · first
            | (rw [hsame]; done)
            | (exfalso; rename_i h2; simp only [hearN, hwas] at h2; (repeat' split at h2) <;> omega)
attribute [irreducible] hearN hearK
end Go.Proofs.Ytbmcgfdopaaiiaa

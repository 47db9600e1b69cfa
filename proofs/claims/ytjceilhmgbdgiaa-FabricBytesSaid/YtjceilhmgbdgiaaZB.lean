/- Messages: what the reference says may be. -/
import Derived.Test.YtjceilhmgbdgiaaZA
set_option linter.all false
namespace Go.Proofs.Ytjceilhmgbdgiaa
open Go.Am

def fieldsM (m : Ms) : Ms :=
  ⟨m.kind, m.fr, m.to, m.inc, m.your, if m.kind = 1 ∨ m.kind = 11 then ⟨0, 0, 0⟩ else m.nm, if m.kind = 2 ∨ m.kind = 3 then m.n else 0, if m.kind = 2 then m.op else 0, if m.kind = 2 then m.block else 0,
    if m.kind = 2 ∧ m.op = 1 ∨ m.kind = 3 ∧ m.e = 0 then m.val else ⟨0, 0, 0, 0, 0, 0, 0, 0⟩, if m.kind = 3 ∨ m.kind = 10 then m.e else 0, if m.kind = 5 ∨ m.kind = 6 then m.yes else false, if m.kind = 4 then m.give else 0, if m.kind = 4 then m.take else 0, if m.kind = 4 then m.ws else []⟩
set_option maxRecDepth 20000 in
theorem fields_spec (m : Ms) (st : St) : ASpec Try.prog 77 [.agg (msC m)] st fun v st' => v = .agg (msC (fieldsM m)) ∧ st' = st := by
  refine pure_of (R := fun v => v = _) A16s F77 rfl ?_
  simp (disch := first | omega | (simp only [LL]; omega)) [WW, c77]
  repeat' first
    | (refine region_static rfl (by decide +kernel) ?_; try simp (disch := first | omega | (simp only [LL]; omega)) [WW])
    | (refine And.intro (by omega) ?_; try simp (disch := first | omega | (simp only [LL]; omega)) [WW])
    | (refine guardK_ndec (fun h => ?_) (fun h => ?_) <;> (try simp (disch := first | omega | (simp only [LL]; omega)) [h, WW]))
    | (refine guardK_dec (fun h => ?_) (fun h => ?_) <;> (try simp (disch := first | omega | (simp only [LL]; omega)) [h, WW]))
    | (refine guardK_nbeq (fun h => ?_) (fun h => ?_) <;> (try simp (disch := first | omega | (simp only [LL]; omega)) [h, WW]))
    | (refine guardK_beq (fun h => ?_) (fun h => ?_) <;> (try simp (disch := first | omega | (simp only [LL]; omega)) [h, WW]))
    | (refine guardK_bne (fun h => ?_) (fun h => ?_) <;> (try simp (disch := first | omega | (simp only [LL]; omega)) [h, WW]))
    | (refine guardK_not (fun h => ?_) (fun h => ?_) <;> (try simp (disch := first | omega | (simp only [LL]; omega)) [h, WW]))
    | (refine guardK_split (fun h => ?_) (fun h => ?_) <;> (try simp (disch := first | omega | (simp only [LL]; omega)) [h, WW]))
    | (refine condK_ndec (fun h => ?_) (fun h => ?_) <;> (try simp (disch := first | omega | (simp only [LL]; omega)) [h, WW]))
    | (refine condK_dec (fun h => ?_) (fun h => ?_) <;> (try simp (disch := first | omega | (simp only [LL]; omega)) [h, WW]))
    | (refine condK_nbeq (fun h => ?_) (fun h => ?_) <;> (try simp (disch := first | omega | (simp only [LL]; omega)) [h, WW]))
    | (refine condK_beq (fun h => ?_) (fun h => ?_) <;> (try simp (disch := first | omega | (simp only [LL]; omega)) [h, WW]))
    | (refine condK_bne (fun h => ?_) (fun h => ?_) <;> (try simp (disch := first | omega | (simp only [LL]; omega)) [h, WW]))
    | (refine condK_not (fun h => ?_) (fun h => ?_) <;> (try simp (disch := first | omega | (simp only [LL]; omega)) [h, WW]))
    | (refine condK_split (fun h => ?_) (fun h => ?_) <;> (try simp (disch := first | omega | (simp only [LL]; omega)) [h, WW]))
  all_goals (simp [fieldsM, u8, *]; try omega)
def downK (k : Int) : Bool := decide (k = 1 ∨ k = 2 ∨ k = 4 ∨ k = 6 ∨ k = 9)
theorem down_spec (k : Int) (st : St) : ASpec Try.prog 78 [.int .i8 k] st fun v st' => v = .bool (downK k) ∧ st' = st := by
  refine pure_of (R := fun v => v = _) A16s F78 rfl ?_
  simp (disch := first | omega | (simp only [LL]; omega)) [WW, c78]
  repeat' first
    | (refine region_static rfl (by decide +kernel) ?_; try simp (disch := first | omega | (simp only [LL]; omega)) [WW])
    | (refine And.intro (by omega) ?_; try simp (disch := first | omega | (simp only [LL]; omega)) [WW])
    | (refine guardK_ndec (fun h => ?_) (fun h => ?_) <;> (try simp (disch := first | omega | (simp only [LL]; omega)) [h, WW]))
    | (refine guardK_dec (fun h => ?_) (fun h => ?_) <;> (try simp (disch := first | omega | (simp only [LL]; omega)) [h, WW]))
    | (refine guardK_nbeq (fun h => ?_) (fun h => ?_) <;> (try simp (disch := first | omega | (simp only [LL]; omega)) [h, WW]))
    | (refine guardK_beq (fun h => ?_) (fun h => ?_) <;> (try simp (disch := first | omega | (simp only [LL]; omega)) [h, WW]))
    | (refine guardK_bne (fun h => ?_) (fun h => ?_) <;> (try simp (disch := first | omega | (simp only [LL]; omega)) [h, WW]))
    | (refine guardK_not (fun h => ?_) (fun h => ?_) <;> (try simp (disch := first | omega | (simp only [LL]; omega)) [h, WW]))
    | (refine guardK_split (fun h => ?_) (fun h => ?_) <;> (try simp (disch := first | omega | (simp only [LL]; omega)) [h, WW]))
    | (refine condK_ndec (fun h => ?_) (fun h => ?_) <;> (try simp (disch := first | omega | (simp only [LL]; omega)) [h, WW]))
    | (refine condK_dec (fun h => ?_) (fun h => ?_) <;> (try simp (disch := first | omega | (simp only [LL]; omega)) [h, WW]))
    | (refine condK_nbeq (fun h => ?_) (fun h => ?_) <;> (try simp (disch := first | omega | (simp only [LL]; omega)) [h, WW]))
    | (refine condK_beq (fun h => ?_) (fun h => ?_) <;> (try simp (disch := first | omega | (simp only [LL]; omega)) [h, WW]))
    | (refine condK_bne (fun h => ?_) (fun h => ?_) <;> (try simp (disch := first | omega | (simp only [LL]; omega)) [h, WW]))
    | (refine condK_not (fun h => ?_) (fun h => ?_) <;> (try simp (disch := first | omega | (simp only [LL]; omega)) [h, WW]))
    | (refine condK_split (fun h => ?_) (fun h => ?_) <;> (try simp (disch := first | omega | (simp only [LL]; omega)) [h, WW]))
  all_goals (simp [downK, *])
noncomputable def B1 : Orc := A16.add 77 (tab (fun x : Int × Int × Int × Int × Int × Int × Int × Int × Int × Int × Int × UInt8 × UInt8 × UInt8 × UInt8 × UInt8 × UInt8 × UInt8 × UInt8 × Int × Bool × Int × Int × List Wr => [.agg [.int .i8 x.1, .int .i64 x.2.1, .int .i64 x.2.2.1, .int .i64 x.2.2.2.1, .int .i64 x.2.2.2.2.1, .int .i64 x.2.2.2.2.2.1, .int .i64 x.2.2.2.2.2.2.1, .int .i64 x.2.2.2.2.2.2.2.1, .int .i64 x.2.2.2.2.2.2.2.2.1, .int .i8 x.2.2.2.2.2.2.2.2.2.1, .int .i64 x.2.2.2.2.2.2.2.2.2.2.1, u8 x.2.2.2.2.2.2.2.2.2.2.2.1, u8 x.2.2.2.2.2.2.2.2.2.2.2.2.1, u8 x.2.2.2.2.2.2.2.2.2.2.2.2.2.1, u8 x.2.2.2.2.2.2.2.2.2.2.2.2.2.2.1, u8 x.2.2.2.2.2.2.2.2.2.2.2.2.2.2.2.1, u8 x.2.2.2.2.2.2.2.2.2.2.2.2.2.2.2.2.1, u8 x.2.2.2.2.2.2.2.2.2.2.2.2.2.2.2.2.2.1, u8 x.2.2.2.2.2.2.2.2.2.2.2.2.2.2.2.2.2.2.1, .int .i64 x.2.2.2.2.2.2.2.2.2.2.2.2.2.2.2.2.2.2.2.1, .bool x.2.2.2.2.2.2.2.2.2.2.2.2.2.2.2.2.2.2.2.2.1, .int .i64 x.2.2.2.2.2.2.2.2.2.2.2.2.2.2.2.2.2.2.2.2.2.1, .int .i64 x.2.2.2.2.2.2.2.2.2.2.2.2.2.2.2.2.2.2.2.2.2.2.1, .sl .any (wrs x.2.2.2.2.2.2.2.2.2.2.2.2.2.2.2.2.2.2.2.2.2.2.2)]]) (fun x => .agg (msC (fieldsM ⟨x.1, x.2.1, x.2.2.1, x.2.2.2.1, x.2.2.2.2.1, ⟨x.2.2.2.2.2.1, x.2.2.2.2.2.2.1, x.2.2.2.2.2.2.2.1⟩, x.2.2.2.2.2.2.2.2.1, x.2.2.2.2.2.2.2.2.2.1, x.2.2.2.2.2.2.2.2.2.2.1, ⟨x.2.2.2.2.2.2.2.2.2.2.2.1, x.2.2.2.2.2.2.2.2.2.2.2.2.1, x.2.2.2.2.2.2.2.2.2.2.2.2.2.1, x.2.2.2.2.2.2.2.2.2.2.2.2.2.2.1, x.2.2.2.2.2.2.2.2.2.2.2.2.2.2.2.1, x.2.2.2.2.2.2.2.2.2.2.2.2.2.2.2.2.1, x.2.2.2.2.2.2.2.2.2.2.2.2.2.2.2.2.2.1, x.2.2.2.2.2.2.2.2.2.2.2.2.2.2.2.2.2.2.1⟩, x.2.2.2.2.2.2.2.2.2.2.2.2.2.2.2.2.2.2.2.1, x.2.2.2.2.2.2.2.2.2.2.2.2.2.2.2.2.2.2.2.2.1, x.2.2.2.2.2.2.2.2.2.2.2.2.2.2.2.2.2.2.2.2.2.1, x.2.2.2.2.2.2.2.2.2.2.2.2.2.2.2.2.2.2.2.2.2.2.1, x.2.2.2.2.2.2.2.2.2.2.2.2.2.2.2.2.2.2.2.2.2.2.2⟩))) fun x => True)
theorem B1s : OSound Try.prog B1 := A16s.tab fun x h st => fields_spec ⟨x.1, x.2.1, x.2.2.1, x.2.2.2.1, x.2.2.2.2.1, ⟨x.2.2.2.2.2.1, x.2.2.2.2.2.2.1, x.2.2.2.2.2.2.2.1⟩, x.2.2.2.2.2.2.2.2.1, x.2.2.2.2.2.2.2.2.2.1, x.2.2.2.2.2.2.2.2.2.2.1, ⟨x.2.2.2.2.2.2.2.2.2.2.2.1, x.2.2.2.2.2.2.2.2.2.2.2.2.1, x.2.2.2.2.2.2.2.2.2.2.2.2.2.1, x.2.2.2.2.2.2.2.2.2.2.2.2.2.2.1, x.2.2.2.2.2.2.2.2.2.2.2.2.2.2.2.1, x.2.2.2.2.2.2.2.2.2.2.2.2.2.2.2.2.1, x.2.2.2.2.2.2.2.2.2.2.2.2.2.2.2.2.2.1, x.2.2.2.2.2.2.2.2.2.2.2.2.2.2.2.2.2.2.1⟩, x.2.2.2.2.2.2.2.2.2.2.2.2.2.2.2.2.2.2.2.1, x.2.2.2.2.2.2.2.2.2.2.2.2.2.2.2.2.2.2.2.2.1, x.2.2.2.2.2.2.2.2.2.2.2.2.2.2.2.2.2.2.2.2.2.1, x.2.2.2.2.2.2.2.2.2.2.2.2.2.2.2.2.2.2.2.2.2.2.1, x.2.2.2.2.2.2.2.2.2.2.2.2.2.2.2.2.2.2.2.2.2.2.2⟩ st
@[simp] theorem B1_77 (k : Int) (fr : Int) (to : Int) (inc : Int) (yo : Int) (a : Int) (b : Int) (c : Int) (n : Int) (op : Int) (bl : Int) (v0 : UInt8) (v1 : UInt8) (v2 : UInt8) (v3 : UInt8) (v4 : UInt8) (v5 : UInt8) (v6 : UInt8) (v7 : UInt8) (e : Int) (y : Bool) (g : Int) (t : Int) (ws : List Wr) : B1 77 [.agg [.int .i8 k, .int .i64 fr, .int .i64 to, .int .i64 inc, .int .i64 yo, .int .i64 a, .int .i64 b, .int .i64 c, .int .i64 n, .int .i8 op, .int .i64 bl, u8 v0, u8 v1, u8 v2, u8 v3, u8 v4, u8 v5, u8 v6, u8 v7, .int .i64 e, .bool y, .int .i64 g, .int .i64 t, .sl .any (wrs ws)]] = some (.agg (msC (fieldsM ⟨k, fr, to, inc, yo, ⟨a, b, c⟩, n, op, bl, ⟨v0, v1, v2, v3, v4, v5, v6, v7⟩, e, y, g, t, ws⟩))) := by
  rw [B1, Orc.add_same]
  exact tab_eq (fun x y h => by simp at h; simp [h]) (x := (k, fr, to, inc, yo, a, b, c, n, op, bl, v0, v1, v2, v3, v4, v5, v6, v7, e, y, g, t, ws)) trivial
@[simp] theorem B1_o (f : Nat) (args : List AV) (h : f ≠ 77) : B1 f args = A16 f args := by
  rw [B1, Orc.add_other _ _ _ _ _ h]
noncomputable def B2 : Orc := B1.add 78 (tab (fun x : Int => [.int .i8 x]) (fun x => .bool (downK x)) fun x => True)
theorem B2s : OSound Try.prog B2 := B1s.tab fun x h st => down_spec x st
@[simp] theorem B2_78 (k : Int) : B2 78 [.int .i8 k] = some (.bool (downK k)) := by
  rw [B2, Orc.add_same]
  exact tab_eq (fun x y h => by simp at h; simp [h]) (x := (k)) trivial
@[simp] theorem B2_o (f : Nat) (args : List AV) (h : f ≠ 78) : B2 f args = B1 f args := by
  rw [B2, Orc.add_other _ _ _ _ _ h]
def headM (m : Ms) : Bool := decide ((0 ≤ m.fr ∧ m.fr ≤ 4 ∧ 0 ≤ m.to ∧ m.to ≤ 4) ∧ (m.fr = 0 ↔ ¬ m.to = 0) ∧ (downK m.kind = true ↔ m.fr = 0) ∧ 1 ≤ m.inc ∧ m.inc ≤ 1048576 ∧ 0 ≤ m.your ∧ m.your ≤ 1048576)
def bodyM (m : Ms) : Bool :=
  if m.kind = 2 then decide (1 ≤ m.n ∧ m.n ≤ 1048576 ∧ 0 ≤ m.op ∧ m.op ≤ 2 ∧ 0 ≤ m.block ∧ m.block < 32)
  else if m.kind = 3 then decide (1 ≤ m.n ∧ m.n ≤ 1048576 ∧ (m.e = 0 ∨ m.e = 120 ∨ m.e = 112 ∨ m.e = 121 ∨ m.e = 50))
  else if m.kind = 4 then given m.give m.take && written m.ws
  else if m.kind = 10 then decide (m.e = 0 ∨ m.e = 50 ∨ m.e = 121) else true
def mayM (m : Ms) : Bool := decide (1 ≤ m.kind ∧ m.kind ≤ 11) && decide (m = fieldsM m) && headM m && (if m.kind = 1 ∨ m.kind = 11 then true else named m.nm && bodyM m)
attribute [irreducible] downK
theorem head_no {m : Ms} (h : ¬ ((m.fr = 0 ↔ ¬ m.to = 0) ∧ (downK m.kind = true ↔ m.fr = 0))) : headM m = false := by
  unfold headM
  rw [decide_eq_false_iff_not]
  exact fun hh => h ⟨hh.2.1, hh.2.2.1⟩
theorem head_yes {m : Ms} (h : (m.fr = 0 ↔ ¬ m.to = 0) ∧ (downK m.kind = true ↔ m.fr = 0)) : headM m = decide ((0 ≤ m.fr ∧ m.fr ≤ 4 ∧ 0 ≤ m.to ∧ m.to ≤ 4) ∧ 1 ≤ m.inc ∧ m.inc ≤ 1048576 ∧ 0 ≤ m.your ∧ m.your ≤ 1048576) := by
  unfold headM
  rw [decide_eq_decide]
  exact ⟨fun hh => ⟨hh.1, hh.2.2.2⟩, fun hh => ⟨hh.1, h.1, h.2, hh.2⟩⟩
attribute [irreducible] headM
set_option maxRecDepth 20000 in
theorem rmay_a (m : Ms) (hl : m.ws.length ≤ 1048576) (hc : (m = fieldsM m) = True) (hf : (m.fr = 0) = True) (ht : (m.to = 0) = False) (hd : downK m.kind = true) (hH : headM m = decide ((0 ≤ m.fr ∧ m.fr ≤ 4 ∧ 0 ≤ m.to ∧ m.to ≤ 4) ∧ 1 ≤ m.inc ∧ m.inc ≤ 1048576 ∧ 0 ≤ m.your ∧ m.your ≤ 1048576)) (st : St) : ASpec Try.prog 25 [.agg (msC m)] st fun v st' => v = .bool (mayM m) ∧ st' = st := by
  refine pure_of (R := fun v => v = _) B2s F25 rfl ?_
  simp (disch := first | omega | (simp only [LL]; omega)) [WW, c25, hc, hf, ht, hd]
  repeat' first
    | (refine region_static rfl (by decide +kernel) ?_; try simp (disch := first | omega | (simp only [LL]; omega)) [WW, hc, hf, ht, hd])
    | (refine And.intro (by omega) ?_; try simp (disch := first | omega | (simp only [LL]; omega)) [WW, hc, hf, ht, hd])
    | (refine guardK_ndec (fun h => ?_) (fun h => ?_) <;> (try simp (disch := first | omega | (simp only [LL]; omega)) [h, WW, hc, hf, ht, hd]))
    | (refine guardK_dec (fun h => ?_) (fun h => ?_) <;> (try simp (disch := first | omega | (simp only [LL]; omega)) [h, WW, hc, hf, ht, hd]))
    | (refine guardK_nbeq (fun h => ?_) (fun h => ?_) <;> (try simp (disch := first | omega | (simp only [LL]; omega)) [h, WW, hc, hf, ht, hd]))
    | (refine guardK_beq (fun h => ?_) (fun h => ?_) <;> (try simp (disch := first | omega | (simp only [LL]; omega)) [h, WW, hc, hf, ht, hd]))
    | (refine guardK_bne (fun h => ?_) (fun h => ?_) <;> (try simp (disch := first | omega | (simp only [LL]; omega)) [h, WW, hc, hf, ht, hd]))
    | (refine guardK_not (fun h => ?_) (fun h => ?_) <;> (try simp (disch := first | omega | (simp only [LL]; omega)) [h, WW, hc, hf, ht, hd]))
    | (refine guardK_split (fun h => ?_) (fun h => ?_) <;> (try simp (disch := first | omega | (simp only [LL]; omega)) [h, WW, hc, hf, ht, hd]))
    | (refine condK_ndec (fun h => ?_) (fun h => ?_) <;> (try simp (disch := first | omega | (simp only [LL]; omega)) [h, WW, hc, hf, ht, hd]))
    | (refine condK_dec (fun h => ?_) (fun h => ?_) <;> (try simp (disch := first | omega | (simp only [LL]; omega)) [h, WW, hc, hf, ht, hd]))
    | (refine condK_nbeq (fun h => ?_) (fun h => ?_) <;> (try simp (disch := first | omega | (simp only [LL]; omega)) [h, WW, hc, hf, ht, hd]))
    | (refine condK_beq (fun h => ?_) (fun h => ?_) <;> (try simp (disch := first | omega | (simp only [LL]; omega)) [h, WW, hc, hf, ht, hd]))
    | (refine condK_bne (fun h => ?_) (fun h => ?_) <;> (try simp (disch := first | omega | (simp only [LL]; omega)) [h, WW, hc, hf, ht, hd]))
    | (refine condK_not (fun h => ?_) (fun h => ?_) <;> (try simp (disch := first | omega | (simp only [LL]; omega)) [h, WW, hc, hf, ht, hd]))
    | (refine condK_split (fun h => ?_) (fun h => ?_) <;> (try simp (disch := first | omega | (simp only [LL]; omega)) [h, WW, hc, hf, ht, hd]))
  all_goals (simp [mayM, bodyM, *]; try omega)
set_option maxRecDepth 20000 in
theorem rmay_b (m : Ms) (hl : m.ws.length ≤ 1048576) (hc : (m = fieldsM m) = True) (hf : (m.fr = 0) = False) (ht : (m.to = 0) = True) (hd : downK m.kind = false) (hH : headM m = decide ((0 ≤ m.fr ∧ m.fr ≤ 4 ∧ 0 ≤ m.to ∧ m.to ≤ 4) ∧ 1 ≤ m.inc ∧ m.inc ≤ 1048576 ∧ 0 ≤ m.your ∧ m.your ≤ 1048576)) (st : St) : ASpec Try.prog 25 [.agg (msC m)] st fun v st' => v = .bool (mayM m) ∧ st' = st := by
  refine pure_of (R := fun v => v = _) B2s F25 rfl ?_
  simp (disch := first | omega | (simp only [LL]; omega)) [WW, c25, hc, hf, ht, hd]
  repeat' first
    | (refine region_static rfl (by decide +kernel) ?_; try simp (disch := first | omega | (simp only [LL]; omega)) [WW, hc, hf, ht, hd])
    | (refine And.intro (by omega) ?_; try simp (disch := first | omega | (simp only [LL]; omega)) [WW, hc, hf, ht, hd])
    | (refine guardK_ndec (fun h => ?_) (fun h => ?_) <;> (try simp (disch := first | omega | (simp only [LL]; omega)) [h, WW, hc, hf, ht, hd]))
    | (refine guardK_dec (fun h => ?_) (fun h => ?_) <;> (try simp (disch := first | omega | (simp only [LL]; omega)) [h, WW, hc, hf, ht, hd]))
    | (refine guardK_nbeq (fun h => ?_) (fun h => ?_) <;> (try simp (disch := first | omega | (simp only [LL]; omega)) [h, WW, hc, hf, ht, hd]))
    | (refine guardK_beq (fun h => ?_) (fun h => ?_) <;> (try simp (disch := first | omega | (simp only [LL]; omega)) [h, WW, hc, hf, ht, hd]))
    | (refine guardK_bne (fun h => ?_) (fun h => ?_) <;> (try simp (disch := first | omega | (simp only [LL]; omega)) [h, WW, hc, hf, ht, hd]))
    | (refine guardK_not (fun h => ?_) (fun h => ?_) <;> (try simp (disch := first | omega | (simp only [LL]; omega)) [h, WW, hc, hf, ht, hd]))
    | (refine guardK_split (fun h => ?_) (fun h => ?_) <;> (try simp (disch := first | omega | (simp only [LL]; omega)) [h, WW, hc, hf, ht, hd]))
    | (refine condK_ndec (fun h => ?_) (fun h => ?_) <;> (try simp (disch := first | omega | (simp only [LL]; omega)) [h, WW, hc, hf, ht, hd]))
    | (refine condK_dec (fun h => ?_) (fun h => ?_) <;> (try simp (disch := first | omega | (simp only [LL]; omega)) [h, WW, hc, hf, ht, hd]))
    | (refine condK_nbeq (fun h => ?_) (fun h => ?_) <;> (try simp (disch := first | omega | (simp only [LL]; omega)) [h, WW, hc, hf, ht, hd]))
    | (refine condK_beq (fun h => ?_) (fun h => ?_) <;> (try simp (disch := first | omega | (simp only [LL]; omega)) [h, WW, hc, hf, ht, hd]))
    | (refine condK_bne (fun h => ?_) (fun h => ?_) <;> (try simp (disch := first | omega | (simp only [LL]; omega)) [h, WW, hc, hf, ht, hd]))
    | (refine condK_not (fun h => ?_) (fun h => ?_) <;> (try simp (disch := first | omega | (simp only [LL]; omega)) [h, WW, hc, hf, ht, hd]))
    | (refine condK_split (fun h => ?_) (fun h => ?_) <;> (try simp (disch := first | omega | (simp only [LL]; omega)) [h, WW, hc, hf, ht, hd]))
  all_goals (simp [mayM, bodyM, *]; try omega)
set_option maxRecDepth 20000 in
theorem rmay_c (m : Ms) (hl : m.ws.length ≤ 1048576) (hc : (m = fieldsM m) = True) {p q : Prop} (hp : p = True ∨ p = False) (hq : q = True ∨ q = False) (d : Bool) (hf : (m.fr = 0) = p) (ht : (m.to = 0) = q) (hd : downK m.kind = d) (hn : ¬ ((p ↔ ¬ q) ∧ (d = true ↔ p))) (hH : headM m = false) (st : St) : ASpec Try.prog 25 [.agg (msC m)] st fun v st' => v = .bool (mayM m) ∧ st' = st := by
  refine pure_of (R := fun v => v = _) B2s F25 rfl ?_
  rcases hp with rfl | rfl <;> rcases hq with rfl | rfl <;> cases d
  all_goals try (exfalso; simp at hn; done)
  all_goals clear hn
  all_goals
    simp (disch := first | omega | (simp only [LL]; omega)) [WW, c25, hc, hf, ht, hd]
    repeat' first
      | (refine region_static rfl (by decide +kernel) ?_; try simp (disch := first | omega | (simp only [LL]; omega)) [WW, hc, hf, ht, hd])
      | (refine And.intro (by omega) ?_; try simp (disch := first | omega | (simp only [LL]; omega)) [WW, hc, hf, ht, hd])
      | (refine guardK_ndec (fun h => ?_) (fun h => ?_) <;> (try simp (disch := first | omega | (simp only [LL]; omega)) [h, WW, hc, hf, ht, hd]))
      | (refine guardK_dec (fun h => ?_) (fun h => ?_) <;> (try simp (disch := first | omega | (simp only [LL]; omega)) [h, WW, hc, hf, ht, hd]))
      | (refine guardK_nbeq (fun h => ?_) (fun h => ?_) <;> (try simp (disch := first | omega | (simp only [LL]; omega)) [h, WW, hc, hf, ht, hd]))
      | (refine guardK_beq (fun h => ?_) (fun h => ?_) <;> (try simp (disch := first | omega | (simp only [LL]; omega)) [h, WW, hc, hf, ht, hd]))
      | (refine guardK_bne (fun h => ?_) (fun h => ?_) <;> (try simp (disch := first | omega | (simp only [LL]; omega)) [h, WW, hc, hf, ht, hd]))
      | (refine guardK_not (fun h => ?_) (fun h => ?_) <;> (try simp (disch := first | omega | (simp only [LL]; omega)) [h, WW, hc, hf, ht, hd]))
      | (refine guardK_split (fun h => ?_) (fun h => ?_) <;> (try simp (disch := first | omega | (simp only [LL]; omega)) [h, WW, hc, hf, ht, hd]))
      | (refine condK_ndec (fun h => ?_) (fun h => ?_) <;> (try simp (disch := first | omega | (simp only [LL]; omega)) [h, WW, hc, hf, ht, hd]))
      | (refine condK_dec (fun h => ?_) (fun h => ?_) <;> (try simp (disch := first | omega | (simp only [LL]; omega)) [h, WW, hc, hf, ht, hd]))
      | (refine condK_nbeq (fun h => ?_) (fun h => ?_) <;> (try simp (disch := first | omega | (simp only [LL]; omega)) [h, WW, hc, hf, ht, hd]))
      | (refine condK_beq (fun h => ?_) (fun h => ?_) <;> (try simp (disch := first | omega | (simp only [LL]; omega)) [h, WW, hc, hf, ht, hd]))
      | (refine condK_bne (fun h => ?_) (fun h => ?_) <;> (try simp (disch := first | omega | (simp only [LL]; omega)) [h, WW, hc, hf, ht, hd]))
      | (refine condK_not (fun h => ?_) (fun h => ?_) <;> (try simp (disch := first | omega | (simp only [LL]; omega)) [h, WW, hc, hf, ht, hd]))
      | (refine condK_split (fun h => ?_) (fun h => ?_) <;> (try simp (disch := first | omega | (simp only [LL]; omega)) [h, WW, hc, hf, ht, hd]))
    all_goals (simp [mayM, *]; try omega)
set_option maxRecDepth 20000 in
theorem rmay_d (m : Ms) (hl : m.ws.length ≤ 1048576) (hc : ¬ m = fieldsM m) (st : St) : ASpec Try.prog 25 [.agg (msC m)] st fun v st' => v = .bool (mayM m) ∧ st' = st := by
  refine pure_of (R := fun v => v = _) B2s F25 rfl ?_
  simp (disch := first | omega | (simp only [LL]; omega)) [WW, c25, hc]
  repeat' first
    | (refine region_static rfl (by decide +kernel) ?_; try simp (disch := first | omega | (simp only [LL]; omega)) [WW, hc])
    | (refine And.intro (by omega) ?_; try simp (disch := first | omega | (simp only [LL]; omega)) [WW, hc])
    | (refine guardK_ndec (fun h => ?_) (fun h => ?_) <;> (try simp (disch := first | omega | (simp only [LL]; omega)) [h, WW, hc]))
    | (refine guardK_dec (fun h => ?_) (fun h => ?_) <;> (try simp (disch := first | omega | (simp only [LL]; omega)) [h, WW, hc]))
    | (refine guardK_nbeq (fun h => ?_) (fun h => ?_) <;> (try simp (disch := first | omega | (simp only [LL]; omega)) [h, WW, hc]))
    | (refine guardK_beq (fun h => ?_) (fun h => ?_) <;> (try simp (disch := first | omega | (simp only [LL]; omega)) [h, WW, hc]))
    | (refine guardK_bne (fun h => ?_) (fun h => ?_) <;> (try simp (disch := first | omega | (simp only [LL]; omega)) [h, WW, hc]))
    | (refine guardK_not (fun h => ?_) (fun h => ?_) <;> (try simp (disch := first | omega | (simp only [LL]; omega)) [h, WW, hc]))
    | (refine guardK_split (fun h => ?_) (fun h => ?_) <;> (try simp (disch := first | omega | (simp only [LL]; omega)) [h, WW, hc]))
    | (refine condK_ndec (fun h => ?_) (fun h => ?_) <;> (try simp (disch := first | omega | (simp only [LL]; omega)) [h, WW, hc]))
    | (refine condK_dec (fun h => ?_) (fun h => ?_) <;> (try simp (disch := first | omega | (simp only [LL]; omega)) [h, WW, hc]))
    | (refine condK_nbeq (fun h => ?_) (fun h => ?_) <;> (try simp (disch := first | omega | (simp only [LL]; omega)) [h, WW, hc]))
    | (refine condK_beq (fun h => ?_) (fun h => ?_) <;> (try simp (disch := first | omega | (simp only [LL]; omega)) [h, WW, hc]))
    | (refine condK_bne (fun h => ?_) (fun h => ?_) <;> (try simp (disch := first | omega | (simp only [LL]; omega)) [h, WW, hc]))
    | (refine condK_not (fun h => ?_) (fun h => ?_) <;> (try simp (disch := first | omega | (simp only [LL]; omega)) [h, WW, hc]))
    | (refine condK_split (fun h => ?_) (fun h => ?_) <;> (try simp (disch := first | omega | (simp only [LL]; omega)) [h, WW, hc]))
  all_goals (simp [mayM, *]; try omega)
theorem rmay_spec (m : Ms) (hl : m.ws.length ≤ 1048576) (st : St) : ASpec Try.prog 25 [.agg (msC m)] st fun v st' => v = .bool (mayM m) ∧ st' = st := by
  by_cases hc : m = fieldsM m
  · have hc := eq_true hc
    by_cases hh : (m.fr = 0 ↔ ¬ m.to = 0) ∧ (downK m.kind = true ↔ m.fr = 0)
    · have hH := head_yes hh
      by_cases hf : m.fr = 0
      · exact rmay_a m hl hc (eq_true hf) (eq_false (hh.1.1 hf)) (hh.2.2 hf) hH st
      · exact rmay_b m hl hc (eq_false hf) (eq_true (Decidable.not_not.1 fun h => hf (hh.1.2 h))) (by rw [← Bool.not_eq_true]; exact fun h => hf (hh.2.1 h)) hH st
    · exact rmay_c m hl hc (Classical.propComplete _) (Classical.propComplete _) _ rfl rfl rfl hh (head_no hh) st
  · exact rmay_d m hl hc st
noncomputable def B3 : Orc := B2.add 25 (tab (fun x : Int × Int × Int × Int × Int × Int × Int × Int × Int × Int × Int × UInt8 × UInt8 × UInt8 × UInt8 × UInt8 × UInt8 × UInt8 × UInt8 × Int × Bool × Int × Int × List Wr => [.agg [.int .i8 x.1, .int .i64 x.2.1, .int .i64 x.2.2.1, .int .i64 x.2.2.2.1, .int .i64 x.2.2.2.2.1, .int .i64 x.2.2.2.2.2.1, .int .i64 x.2.2.2.2.2.2.1, .int .i64 x.2.2.2.2.2.2.2.1, .int .i64 x.2.2.2.2.2.2.2.2.1, .int .i8 x.2.2.2.2.2.2.2.2.2.1, .int .i64 x.2.2.2.2.2.2.2.2.2.2.1, u8 x.2.2.2.2.2.2.2.2.2.2.2.1, u8 x.2.2.2.2.2.2.2.2.2.2.2.2.1, u8 x.2.2.2.2.2.2.2.2.2.2.2.2.2.1, u8 x.2.2.2.2.2.2.2.2.2.2.2.2.2.2.1, u8 x.2.2.2.2.2.2.2.2.2.2.2.2.2.2.2.1, u8 x.2.2.2.2.2.2.2.2.2.2.2.2.2.2.2.2.1, u8 x.2.2.2.2.2.2.2.2.2.2.2.2.2.2.2.2.2.1, u8 x.2.2.2.2.2.2.2.2.2.2.2.2.2.2.2.2.2.2.1, .int .i64 x.2.2.2.2.2.2.2.2.2.2.2.2.2.2.2.2.2.2.2.1, .bool x.2.2.2.2.2.2.2.2.2.2.2.2.2.2.2.2.2.2.2.2.1, .int .i64 x.2.2.2.2.2.2.2.2.2.2.2.2.2.2.2.2.2.2.2.2.2.1, .int .i64 x.2.2.2.2.2.2.2.2.2.2.2.2.2.2.2.2.2.2.2.2.2.2.1, .sl .any (wrs x.2.2.2.2.2.2.2.2.2.2.2.2.2.2.2.2.2.2.2.2.2.2.2)]]) (fun x => .bool (mayM ⟨x.1, x.2.1, x.2.2.1, x.2.2.2.1, x.2.2.2.2.1, ⟨x.2.2.2.2.2.1, x.2.2.2.2.2.2.1, x.2.2.2.2.2.2.2.1⟩, x.2.2.2.2.2.2.2.2.1, x.2.2.2.2.2.2.2.2.2.1, x.2.2.2.2.2.2.2.2.2.2.1, ⟨x.2.2.2.2.2.2.2.2.2.2.2.1, x.2.2.2.2.2.2.2.2.2.2.2.2.1, x.2.2.2.2.2.2.2.2.2.2.2.2.2.1, x.2.2.2.2.2.2.2.2.2.2.2.2.2.2.1, x.2.2.2.2.2.2.2.2.2.2.2.2.2.2.2.1, x.2.2.2.2.2.2.2.2.2.2.2.2.2.2.2.2.1, x.2.2.2.2.2.2.2.2.2.2.2.2.2.2.2.2.2.1, x.2.2.2.2.2.2.2.2.2.2.2.2.2.2.2.2.2.2.1⟩, x.2.2.2.2.2.2.2.2.2.2.2.2.2.2.2.2.2.2.2.1, x.2.2.2.2.2.2.2.2.2.2.2.2.2.2.2.2.2.2.2.2.1, x.2.2.2.2.2.2.2.2.2.2.2.2.2.2.2.2.2.2.2.2.2.1, x.2.2.2.2.2.2.2.2.2.2.2.2.2.2.2.2.2.2.2.2.2.2.1, x.2.2.2.2.2.2.2.2.2.2.2.2.2.2.2.2.2.2.2.2.2.2.2⟩)) fun x => x.2.2.2.2.2.2.2.2.2.2.2.2.2.2.2.2.2.2.2.2.2.2.2.length ≤ 1048576)
theorem B3s : OSound Try.prog B3 := B2s.tab fun x h st => rmay_spec ⟨x.1, x.2.1, x.2.2.1, x.2.2.2.1, x.2.2.2.2.1, ⟨x.2.2.2.2.2.1, x.2.2.2.2.2.2.1, x.2.2.2.2.2.2.2.1⟩, x.2.2.2.2.2.2.2.2.1, x.2.2.2.2.2.2.2.2.2.1, x.2.2.2.2.2.2.2.2.2.2.1, ⟨x.2.2.2.2.2.2.2.2.2.2.2.1, x.2.2.2.2.2.2.2.2.2.2.2.2.1, x.2.2.2.2.2.2.2.2.2.2.2.2.2.1, x.2.2.2.2.2.2.2.2.2.2.2.2.2.2.1, x.2.2.2.2.2.2.2.2.2.2.2.2.2.2.2.1, x.2.2.2.2.2.2.2.2.2.2.2.2.2.2.2.2.1, x.2.2.2.2.2.2.2.2.2.2.2.2.2.2.2.2.2.1, x.2.2.2.2.2.2.2.2.2.2.2.2.2.2.2.2.2.2.1⟩, x.2.2.2.2.2.2.2.2.2.2.2.2.2.2.2.2.2.2.2.1, x.2.2.2.2.2.2.2.2.2.2.2.2.2.2.2.2.2.2.2.2.1, x.2.2.2.2.2.2.2.2.2.2.2.2.2.2.2.2.2.2.2.2.2.1, x.2.2.2.2.2.2.2.2.2.2.2.2.2.2.2.2.2.2.2.2.2.2.1, x.2.2.2.2.2.2.2.2.2.2.2.2.2.2.2.2.2.2.2.2.2.2.2⟩ h st
@[simp] theorem B3_25 (k : Int) (fr : Int) (to : Int) (inc : Int) (yo : Int) (a : Int) (b : Int) (c : Int) (n : Int) (op : Int) (bl : Int) (v0 : UInt8) (v1 : UInt8) (v2 : UInt8) (v3 : UInt8) (v4 : UInt8) (v5 : UInt8) (v6 : UInt8) (v7 : UInt8) (e : Int) (y : Bool) (g : Int) (t : Int) (ws : List Wr) (h : ws.length ≤ 1048576) : B3 25 [.agg [.int .i8 k, .int .i64 fr, .int .i64 to, .int .i64 inc, .int .i64 yo, .int .i64 a, .int .i64 b, .int .i64 c, .int .i64 n, .int .i8 op, .int .i64 bl, u8 v0, u8 v1, u8 v2, u8 v3, u8 v4, u8 v5, u8 v6, u8 v7, .int .i64 e, .bool y, .int .i64 g, .int .i64 t, .sl .any (wrs ws)]] = some (.bool (mayM ⟨k, fr, to, inc, yo, ⟨a, b, c⟩, n, op, bl, ⟨v0, v1, v2, v3, v4, v5, v6, v7⟩, e, y, g, t, ws⟩)) := by
  rw [B3, Orc.add_same]
  exact tab_eq (fun x y h => by simp at h; simp [h]) (x := (k, fr, to, inc, yo, a, b, c, n, op, bl, v0, v1, v2, v3, v4, v5, v6, v7, e, y, g, t, ws)) h
@[simp] theorem B3_o (f : Nat) (args : List AV) (h : f ≠ 25) : B3 f args = B2 f args := by
  rw [B3, Orc.add_other _ _ _ _ _ h]
attribute [irreducible] mayM
end Go.Proofs.Ytjceilhmgbdgiaa

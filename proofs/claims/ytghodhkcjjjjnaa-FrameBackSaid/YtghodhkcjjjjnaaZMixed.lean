/- FrameMixed: what the law hands back. -/
import Derived.Test.YtghodhkcjjjjnaaZLoads
import Derived.Test.YtghodhkcjjjjnaaZCrc
set_option linter.all false
namespace Go.Proofs.Ytghodhkcjjjjnaa
open Go.Am

theorem rem_spec (r : BitVec 32) (b : UInt8) (st : St) : ASpec Try.prog 31 [u32 r, u8 b] st fun v st' => v = u32 (thr1 r b) ∧ st' = st := by
  rw [← rem1_eq]
  refine pure_of (R := fun v => v = _) O9s F31 rfl ?_
  simp (disch := first | omega | (simp only [List.length_take, List.length_drop, List.length_append, List.length_cons, List.length_nil, List.length_map]; omega)) [IntWalk.i64_in, IntWalk.i64_quo, c31]
  refine awC_loop (fun k env s => ∃ i, k + i = 8 ∧ env 0 = u32 (steps i (r ^^^ b.toBitVec.setWidth 32)) ∧ env 5 = .int .i64 i ∧ s = st) 8 ?_ ?_
  · exact ⟨0, by simp [steps]⟩
  rintro k env s ⟨i, hk, h0, h5, rfl⟩
  by_cases hi : i < 8
  · have hi' : (i : Int) < 8 := by omega
    simp (disch := first | omega | (simp only [List.length_take, List.length_drop, List.length_append, List.length_cons, List.length_nil, List.length_map]; omega)) [IntWalk.i64_in, IntWalk.i64_quo, h0, h5, hi']
    repeat' first
      | (refine region_static rfl (by decide +kernel) ?_; try simp (disch := first | omega | (simp only [List.length_take, List.length_drop, List.length_append, List.length_cons, List.length_nil, List.length_map]; omega)) [IntWalk.i64_in, IntWalk.i64_quo, h0, h5])
      | (refine And.intro (by omega) ?_; try simp (disch := first | omega | (simp only [List.length_take, List.length_drop, List.length_append, List.length_cons, List.length_nil, List.length_map]; omega)) [IntWalk.i64_in, IntWalk.i64_quo, h0, h5])
      | (refine guardK_ndec (fun h => ?_) (fun h => ?_) <;> (try simp (disch := first | omega | (simp only [List.length_take, List.length_drop, List.length_append, List.length_cons, List.length_nil, List.length_map]; omega)) [h, IntWalk.i64_in, IntWalk.i64_quo, h0, h5]))
      | (refine guardK_dec (fun h => ?_) (fun h => ?_) <;> (try simp (disch := first | omega | (simp only [List.length_take, List.length_drop, List.length_append, List.length_cons, List.length_nil, List.length_map]; omega)) [h, IntWalk.i64_in, IntWalk.i64_quo, h0, h5]))
      | (refine guardK_nbeq (fun h => ?_) (fun h => ?_) <;> (try simp (disch := first | omega | (simp only [List.length_take, List.length_drop, List.length_append, List.length_cons, List.length_nil, List.length_map]; omega)) [h, IntWalk.i64_in, IntWalk.i64_quo, h0, h5]))
      | (refine guardK_beq (fun h => ?_) (fun h => ?_) <;> (try simp (disch := first | omega | (simp only [List.length_take, List.length_drop, List.length_append, List.length_cons, List.length_nil, List.length_map]; omega)) [h, IntWalk.i64_in, IntWalk.i64_quo, h0, h5]))
      | (refine guardK_bne (fun h => ?_) (fun h => ?_) <;> (try simp (disch := first | omega | (simp only [List.length_take, List.length_drop, List.length_append, List.length_cons, List.length_nil, List.length_map]; omega)) [h, IntWalk.i64_in, IntWalk.i64_quo, h0, h5]))
      | (refine guardK_not (fun h => ?_) (fun h => ?_) <;> (try simp (disch := first | omega | (simp only [List.length_take, List.length_drop, List.length_append, List.length_cons, List.length_nil, List.length_map]; omega)) [h, IntWalk.i64_in, IntWalk.i64_quo, h0, h5]))
      | (refine guardK_split (fun h => ?_) (fun h => ?_) <;> (try simp (disch := first | omega | (simp only [List.length_take, List.length_drop, List.length_append, List.length_cons, List.length_nil, List.length_map]; omega)) [h, IntWalk.i64_in, IntWalk.i64_quo, h0, h5]))
      | (refine condK_ndec (fun h => ?_) (fun h => ?_) <;> (try simp (disch := first | omega | (simp only [List.length_take, List.length_drop, List.length_append, List.length_cons, List.length_nil, List.length_map]; omega)) [h, IntWalk.i64_in, IntWalk.i64_quo, h0, h5]))
      | (refine condK_dec (fun h => ?_) (fun h => ?_) <;> (try simp (disch := first | omega | (simp only [List.length_take, List.length_drop, List.length_append, List.length_cons, List.length_nil, List.length_map]; omega)) [h, IntWalk.i64_in, IntWalk.i64_quo, h0, h5]))
      | (refine condK_nbeq (fun h => ?_) (fun h => ?_) <;> (try simp (disch := first | omega | (simp only [List.length_take, List.length_drop, List.length_append, List.length_cons, List.length_nil, List.length_map]; omega)) [h, IntWalk.i64_in, IntWalk.i64_quo, h0, h5]))
      | (refine condK_beq (fun h => ?_) (fun h => ?_) <;> (try simp (disch := first | omega | (simp only [List.length_take, List.length_drop, List.length_append, List.length_cons, List.length_nil, List.length_map]; omega)) [h, IntWalk.i64_in, IntWalk.i64_quo, h0, h5]))
      | (refine condK_bne (fun h => ?_) (fun h => ?_) <;> (try simp (disch := first | omega | (simp only [List.length_take, List.length_drop, List.length_append, List.length_cons, List.length_nil, List.length_map]; omega)) [h, IntWalk.i64_in, IntWalk.i64_quo, h0, h5]))
      | (refine condK_not (fun h => ?_) (fun h => ?_) <;> (try simp (disch := first | omega | (simp only [List.length_take, List.length_drop, List.length_append, List.length_cons, List.length_nil, List.length_map]; omega)) [h, IntWalk.i64_in, IntWalk.i64_quo, h0, h5]))
      | (refine condK_split (fun h => ?_) (fun h => ?_) <;> (try simp (disch := first | omega | (simp only [List.length_take, List.length_drop, List.length_append, List.length_cons, List.length_nil, List.length_map]; omega)) [h, IntWalk.i64_in, IntWalk.i64_quo, h0, h5]))
    all_goals
      refine ⟨k - 1, by omega, [0, 5], _, .pop (by simp) (by simp) (by simp), i + 1, by omega, ?_⟩
      simp [steps, step_if, *]
  · have hi' : ¬ (i : Int) < 8 := by omega
    have : i = 8 := by omega
    subst this
    simp (disch := first | omega | (simp only [List.length_take, List.length_drop, List.length_append, List.length_cons, List.length_nil, List.length_map]; omega)) [IntWalk.i64_in, IntWalk.i64_quo, h0, h5, rem1]

noncomputable def O10 : Orc := O9.add 31 (tab (fun x : BitVec 32 × UInt8 => [u32 x.1, u8 x.2]) (fun x => u32 (thr1 x.1 x.2)) fun _ => True)
theorem O10s : OSound Try.prog O10 := O9s.tab fun x _ st => rem_spec x.1 x.2 st
theorem O10_31 (r : BitVec 32) (b : UInt8) : O10 31 [u32 r, u8 b] = some (u32 (thr1 r b)) := by
  rw [O10, Orc.add_same]
  exact tab_eq (fun x y h => by simp at h; rw [h.1, h.2]) (x := (r, b)) trivial

theorem rjoin_spec (r : BitVec 32) (l : List UInt8) (hl : l.length ≤ 2147483648) (st : St) : ASpec Try.prog 21 [u32 r, .sl .any (ofBytes l)] st fun v st' => v = u32 (crcJ r l) ∧ st' = st := by
  refine pure_of (R := fun v => v = _) O10s F21 rfl ?_
  simp (disch := first | omega | (simp only [List.length_take, List.length_drop, List.length_append, List.length_cons, List.length_nil, List.length_map]; omega)) [IntWalk.i64_in, IntWalk.i64_quo, c21]
  refine awC_loop (fun k env s => ∃ i, k + i = l.length ∧ env 1 = .sl .any (ofBytes l) ∧ env 5 = u32 (thr (~~~r) (l.take i)) ∧ env 6 = .int .i64 i ∧ s = st) l.length ?_ ?_
  · exact ⟨0, by simp [thr]⟩
  rintro k env s ⟨i, hk, h1, h5, h6, rfl⟩
  by_cases hi : i < l.length
  · have hi' : (i : Int) < l.length := by omega
    simp (disch := first | omega | (simp only [List.length_take, List.length_drop, List.length_append, List.length_cons, List.length_nil, List.length_map]; omega)) [IntWalk.i64_in, IntWalk.i64_quo, h1, h5, h6, hi, hi', O10_31]
    refine ⟨k - 1, by omega, [1, 5, 6], _, .pop (by simp) (by simp) (by simp [h1]), i + 1, by omega, ?_⟩
    simp [h1, thr_take _ _ _ hi]
  · have hi' : ¬ (i : Int) < l.length := by omega
    simp (disch := first | omega | (simp only [List.length_take, List.length_drop, List.length_append, List.length_cons, List.length_nil, List.length_map]; omega)) [IntWalk.i64_in, IntWalk.i64_quo, h1, h5, h6, hi, hi', List.take_of_length_le, crcJ]

noncomputable def O11 : Orc := O10.add 21 (tab (fun x : BitVec 32 × List UInt8 => [u32 x.1, .sl .any (ofBytes x.2)]) (fun x => u32 (crcJ x.1 x.2)) fun x => x.2.length ≤ 2147483648)
theorem O11s : OSound Try.prog O11 := O10s.tab fun x h st => rjoin_spec x.1 x.2 h st
theorem O11_21 (r : BitVec 32) (l : List UInt8) (h : l.length ≤ 2147483648) : O11 21 [u32 r, .sl .any (ofBytes l)] = some (u32 (crcJ r l)) := by
  rw [O11, Orc.add_same]
  exact tab_eq (fun x y h => by simp at h; rw [h.1, h.2]) (x := (r, l)) h

theorem rsum_spec (l : List UInt8) (hl : l.length ≤ 2147483648) (st : St) : ASpec Try.prog 9 [.sl .any (ofBytes l)] st fun v st' => v = u32 (crc l) ∧ st' = st := by
  refine pure_of (R := fun v => v = _) O11s F9 rfl ?_
  simp (disch := first | omega | (simp only [List.length_take, List.length_drop, List.length_append, List.length_cons, List.length_nil, List.length_map]; omega)) [IntWalk.i64_in, IntWalk.i64_quo, c9, O11_21, crc]

noncomputable def O12 : Orc := O11.add 9 (tab (fun x : List UInt8 => [.sl .any (ofBytes x)]) (fun x => u32 (crc x)) fun x => x.length ≤ 2147483648)
theorem O12s : OSound Try.prog O12 := O11s.tab fun x h st => rsum_spec x h st
theorem O12_9 (l : List UInt8) (h : l.length ≤ 2147483648) : O12 9 [.sl .any (ofBytes l)] = some (u32 (crc l)) := by
  rw [O12, Orc.add_same]
  exact tab_eq (fun x y h => by simp at h; rw [h]) (x := l) h
theorem O12_old {f : Nat} {vs : List AV} (h1 : f ≠ 9) (h2 : f ≠ 21) (h3 : f ≠ 31) : O12 f vs = O9 f vs := by
  rw [O12, Orc.add_other _ _ _ _ _ h1, O11, Orc.add_other _ _ _ _ _ h2, O10, Orc.add_other _ _ _ _ _ h3]
theorem O12_7 : O12 7 [] = some (.bool true) := (O12_old (by decide) (by decide) (by decide)).trans O9_7

theorem mixed_spec (a b : List UInt8) (seq inc other : Int) (st : St) : ASpec Try.prog 3 [.sl .any (ofBytes a), .sl .any (ofBytes b), .int .i64 seq, .int .i64 inc, .int .i64 other] st fun v st' => v = .bool true ∧ st' = st := by
  refine pure_of (R := fun v => v = _) O12s F3 rfl ?_
  by_cases ha : 90 < a.length
  · have ha' : 90 < (a.length : Int) := by omega
    simp (disch := first | omega | (simp only [List.length_take, List.length_drop, List.length_append, List.length_cons, List.length_nil, List.length_map]; omega)) [IntWalk.i64_in, IntWalk.i64_quo, c3, ha, ha', O12_7]
  have ha' : ¬ 90 < (a.length : Int) := by omega
  by_cases hb : 90 < b.length
  · have hb' : 90 < (b.length : Int) := by omega
    simp (disch := first | omega | (simp only [List.length_take, List.length_drop, List.length_append, List.length_cons, List.length_nil, List.length_map]; omega)) [IntWalk.i64_in, IntWalk.i64_quo, c3, ha, ha', hb, hb', O12_7]
  have hb' : ¬ 90 < (b.length : Int) := by omega
  have h8a := O9_8 a seq inc (by omega)
  have h8b := O9_8 b seq other (by omega)
  rw [← O12_old (by decide) (by decide) (by decide)] at h8a h8b
  rcases cut_cases a seq inc with ⟨e, he, hc⟩ | ⟨hca, hc, p1, p2, p3, p4, p5, p6⟩
  · rw [hc] at h8a
    generalize (cut b seq other).1.map frA = x at h8b
    generalize (cut b seq other).2 = y at h8b
    simp (disch := first | omega | (simp only [List.length_take, List.length_drop, List.length_append, List.length_cons, List.length_nil, List.length_map]; omega)) [IntWalk.i64_in, IntWalk.i64_quo, c3, ha, ha', hb, hb', h8a, h8b, he, O12_7]
  rcases cut_cases b seq other with ⟨e, he, hc'⟩ | ⟨hcb, hc', q1, q2, q3, q4, q5, q6⟩
  · rw [hc'] at h8b
    generalize (cut a seq inc).1.map frA = x at h8a
    rw [hca] at h8a
    simp (disch := first | omega | (simp only [List.length_take, List.length_drop, List.length_append, List.length_cons, List.length_nil, List.length_map]; omega)) [IntWalk.i64_in, IntWalk.i64_quo, c3, ha, ha', hb, hb', h8a, h8b, he, O12_7]
  rw [hc] at h8a
  rw [hc'] at h8b
  have hFa : ((List.range (cutOf a)).map (mkFr a seq inc (cutOf a))).map frA = frs a seq inc (cutOf a) := by simp [frs]
  have hFb : ((List.range (cutOf b)).map (mkFr b seq other (cutOf b))).map frA = frs b seq other (cutOf b) := by simp [frs]
  simp only [hFa] at h8a
  simp only [hFb] at h8b
  by_cases na : cutOf a = 2
  case neg =>
    have na' : ¬ (cutOf a : Int) = 2 := by omega
    simp (disch := first | omega | (simp only [List.length_take, List.length_drop, List.length_append, List.length_cons, List.length_nil, List.length_map]; omega)) [IntWalk.i64_in, IntWalk.i64_quo, c3, ha, ha', hb, hb', h8a, h8b, frs_length, na, na', O12_7]
  by_cases nb : cutOf b = 2
  case neg =>
    have nb' : ¬ (cutOf b : Int) = 2 := by omega
    simp (disch := first | omega | (simp only [List.length_take, List.length_drop, List.length_append, List.length_cons, List.length_nil, List.length_map]; omega)) [IntWalk.i64_in, IntWalk.i64_quo, c3, ha, ha', hb, hb', h8a, h8b, frs_length, na, nb, nb', O12_7]
  by_cases hs : inc = other ∧ crc a = crc b
  · obtain ⟨rfl, hs⟩ := hs
    simp (disch := first | omega | (simp only [List.length_take, List.length_drop, List.length_append, List.length_cons, List.length_nil, List.length_map]; omega)) [IntWalk.i64_in, IntWalk.i64_quo, c3, ha, ha', hb, hb', h8a, h8b, frs_length, na, nb, hs, O12_7, O12_9]
  have key : ∀ (x y : List UInt8) (i j : Int), ¬ (i = j ∧ crc x = crc y) → joinA [mkFr x seq i 2 0, mkFr y seq j 2 1] = .tup [.sl .any [], .int .i64 40] := by
    intro x y i j h
    refine joinA_bad (g := mkFr x seq i 2 0) (i := 1) (f := mkFr y seq j 2 1) rfl rfl ?_
    simp only [partOk, mkFr]
    by_cases hij : i = j
    · have : ¬ crc y = crc x := fun e => h ⟨hij, e.symm⟩
      simp [this]
    · have : ¬ j = i := fun e => hij e.symm
      simp [this]
  have k1 := key a b inc other hs
  have k2 := key b a other inc (fun h => hs ⟨h.1.symm, h.2.symm⟩)
  have k3 : joinA [mkFr a seq inc 2 1, mkFr a seq inc 2 0] = .tup [.sl .any [], .int .i64 40] :=
    joinA_bad (g := mkFr a seq inc 2 1) (i := 0) (f := mkFr a seq inc 2 1) rfl rfl (by simp [partOk, mkFr])
  have j1 := O9_10 [mkFr a seq inc 2 0, mkFr b seq other 2 1] (by simp)
  have j2 := O9_10 [mkFr b seq other 2 0, mkFr a seq inc 2 1] (by simp)
  have j3 := O9_10 [mkFr a seq inc 2 1, mkFr a seq inc 2 0] (by simp)
  rw [k1, ← O12_old (by decide) (by decide) (by decide)] at j1
  rw [k2, ← O12_old (by decide) (by decide) (by decide)] at j2
  rw [k3, ← O12_old (by decide) (by decide) (by decide)] at j3
  simp [mkFr] at j1 j2 j3
  rw [na] at h8a
  rw [nb] at h8b
  have ga0 := frs_get a seq inc (n := 2) (i := 0) (by decide)
  have ga1 := frs_get a seq inc (n := 2) (i := 1) (by decide)
  have gb0 := frs_get b seq other (n := 2) (i := 0) (by decide)
  have gb1 := frs_get b seq other (n := 2) (i := 1) (by decide)
  rw [na] at ga0 ga1
  rw [nb] at gb0 gb1
  simp at ga0 ga1 gb0 gb1
  simp (disch := first | omega | (simp only [List.length_take, List.length_drop, List.length_append, List.length_cons, List.length_nil, List.length_map]; omega)) [IntWalk.i64_in, IntWalk.i64_quo, c3, ha, ha', hb, hb', h8a, h8b, frs_length, O12_7, O12_9]
  by_cases hio : inc = other
  · have hcr : ¬ crc a = crc b := fun e => hs ⟨hio, e⟩
    subst hio
    simp (disch := first | omega | (simp only [List.length_take, List.length_drop, List.length_append, List.length_cons, List.length_nil, List.length_map]; omega)) [IntWalk.i64_in, IntWalk.i64_quo, hcr, O12_7, O12_9, ga0, ga1, gb0, gb1, j1, j2, j3]
    repeat' first
      | (refine region_static rfl (by decide +kernel) ?_; try simp (disch := first | omega | (simp only [List.length_take, List.length_drop, List.length_append, List.length_cons, List.length_nil, List.length_map]; omega)) [IntWalk.i64_in, IntWalk.i64_quo, hcr, O12_7, O12_9, ga0, ga1, gb0, gb1, j1, j2, j3])
      | (refine And.intro (by omega) ?_; try simp (disch := first | omega | (simp only [List.length_take, List.length_drop, List.length_append, List.length_cons, List.length_nil, List.length_map]; omega)) [IntWalk.i64_in, IntWalk.i64_quo, hcr, O12_7, O12_9, ga0, ga1, gb0, gb1, j1, j2, j3])
      | (refine guardK_ndec (fun h => ?_) (fun h => ?_) <;> (try simp (disch := first | omega | (simp only [List.length_take, List.length_drop, List.length_append, List.length_cons, List.length_nil, List.length_map]; omega)) [h, IntWalk.i64_in, IntWalk.i64_quo, hcr, O12_7, O12_9, ga0, ga1, gb0, gb1, j1, j2, j3]))
      | (refine guardK_dec (fun h => ?_) (fun h => ?_) <;> (try simp (disch := first | omega | (simp only [List.length_take, List.length_drop, List.length_append, List.length_cons, List.length_nil, List.length_map]; omega)) [h, IntWalk.i64_in, IntWalk.i64_quo, hcr, O12_7, O12_9, ga0, ga1, gb0, gb1, j1, j2, j3]))
      | (refine guardK_nbeq (fun h => ?_) (fun h => ?_) <;> (try simp (disch := first | omega | (simp only [List.length_take, List.length_drop, List.length_append, List.length_cons, List.length_nil, List.length_map]; omega)) [h, IntWalk.i64_in, IntWalk.i64_quo, hcr, O12_7, O12_9, ga0, ga1, gb0, gb1, j1, j2, j3]))
      | (refine guardK_beq (fun h => ?_) (fun h => ?_) <;> (try simp (disch := first | omega | (simp only [List.length_take, List.length_drop, List.length_append, List.length_cons, List.length_nil, List.length_map]; omega)) [h, IntWalk.i64_in, IntWalk.i64_quo, hcr, O12_7, O12_9, ga0, ga1, gb0, gb1, j1, j2, j3]))
      | (refine guardK_bne (fun h => ?_) (fun h => ?_) <;> (try simp (disch := first | omega | (simp only [List.length_take, List.length_drop, List.length_append, List.length_cons, List.length_nil, List.length_map]; omega)) [h, IntWalk.i64_in, IntWalk.i64_quo, hcr, O12_7, O12_9, ga0, ga1, gb0, gb1, j1, j2, j3]))
      | (refine guardK_not (fun h => ?_) (fun h => ?_) <;> (try simp (disch := first | omega | (simp only [List.length_take, List.length_drop, List.length_append, List.length_cons, List.length_nil, List.length_map]; omega)) [h, IntWalk.i64_in, IntWalk.i64_quo, hcr, O12_7, O12_9, ga0, ga1, gb0, gb1, j1, j2, j3]))
      | (refine guardK_split (fun h => ?_) (fun h => ?_) <;> (try simp (disch := first | omega | (simp only [List.length_take, List.length_drop, List.length_append, List.length_cons, List.length_nil, List.length_map]; omega)) [h, IntWalk.i64_in, IntWalk.i64_quo, hcr, O12_7, O12_9, ga0, ga1, gb0, gb1, j1, j2, j3]))
      | (refine condK_ndec (fun h => ?_) (fun h => ?_) <;> (try simp (disch := first | omega | (simp only [List.length_take, List.length_drop, List.length_append, List.length_cons, List.length_nil, List.length_map]; omega)) [h, IntWalk.i64_in, IntWalk.i64_quo, hcr, O12_7, O12_9, ga0, ga1, gb0, gb1, j1, j2, j3]))
      | (refine condK_dec (fun h => ?_) (fun h => ?_) <;> (try simp (disch := first | omega | (simp only [List.length_take, List.length_drop, List.length_append, List.length_cons, List.length_nil, List.length_map]; omega)) [h, IntWalk.i64_in, IntWalk.i64_quo, hcr, O12_7, O12_9, ga0, ga1, gb0, gb1, j1, j2, j3]))
      | (refine condK_nbeq (fun h => ?_) (fun h => ?_) <;> (try simp (disch := first | omega | (simp only [List.length_take, List.length_drop, List.length_append, List.length_cons, List.length_nil, List.length_map]; omega)) [h, IntWalk.i64_in, IntWalk.i64_quo, hcr, O12_7, O12_9, ga0, ga1, gb0, gb1, j1, j2, j3]))
      | (refine condK_beq (fun h => ?_) (fun h => ?_) <;> (try simp (disch := first | omega | (simp only [List.length_take, List.length_drop, List.length_append, List.length_cons, List.length_nil, List.length_map]; omega)) [h, IntWalk.i64_in, IntWalk.i64_quo, hcr, O12_7, O12_9, ga0, ga1, gb0, gb1, j1, j2, j3]))
      | (refine condK_bne (fun h => ?_) (fun h => ?_) <;> (try simp (disch := first | omega | (simp only [List.length_take, List.length_drop, List.length_append, List.length_cons, List.length_nil, List.length_map]; omega)) [h, IntWalk.i64_in, IntWalk.i64_quo, hcr, O12_7, O12_9, ga0, ga1, gb0, gb1, j1, j2, j3]))
      | (refine condK_not (fun h => ?_) (fun h => ?_) <;> (try simp (disch := first | omega | (simp only [List.length_take, List.length_drop, List.length_append, List.length_cons, List.length_nil, List.length_map]; omega)) [h, IntWalk.i64_in, IntWalk.i64_quo, hcr, O12_7, O12_9, ga0, ga1, gb0, gb1, j1, j2, j3]))
      | (refine condK_split (fun h => ?_) (fun h => ?_) <;> (try simp (disch := first | omega | (simp only [List.length_take, List.length_drop, List.length_append, List.length_cons, List.length_nil, List.length_map]; omega)) [h, IntWalk.i64_in, IntWalk.i64_quo, hcr, O12_7, O12_9, ga0, ga1, gb0, gb1, j1, j2, j3]))
  · simp (disch := first | omega | (simp only [List.length_take, List.length_drop, List.length_append, List.length_cons, List.length_nil, List.length_map]; omega)) [IntWalk.i64_in, IntWalk.i64_quo, hio, O12_7, O12_9, ga0, ga1, gb0, gb1, j1, j2, j3]
    repeat' first
      | (refine region_static rfl (by decide +kernel) ?_; try simp (disch := first | omega | (simp only [List.length_take, List.length_drop, List.length_append, List.length_cons, List.length_nil, List.length_map]; omega)) [IntWalk.i64_in, IntWalk.i64_quo, hio, O12_7, O12_9, ga0, ga1, gb0, gb1, j1, j2, j3])
      | (refine And.intro (by omega) ?_; try simp (disch := first | omega | (simp only [List.length_take, List.length_drop, List.length_append, List.length_cons, List.length_nil, List.length_map]; omega)) [IntWalk.i64_in, IntWalk.i64_quo, hio, O12_7, O12_9, ga0, ga1, gb0, gb1, j1, j2, j3])
      | (refine guardK_ndec (fun h => ?_) (fun h => ?_) <;> (try simp (disch := first | omega | (simp only [List.length_take, List.length_drop, List.length_append, List.length_cons, List.length_nil, List.length_map]; omega)) [h, IntWalk.i64_in, IntWalk.i64_quo, hio, O12_7, O12_9, ga0, ga1, gb0, gb1, j1, j2, j3]))
      | (refine guardK_dec (fun h => ?_) (fun h => ?_) <;> (try simp (disch := first | omega | (simp only [List.length_take, List.length_drop, List.length_append, List.length_cons, List.length_nil, List.length_map]; omega)) [h, IntWalk.i64_in, IntWalk.i64_quo, hio, O12_7, O12_9, ga0, ga1, gb0, gb1, j1, j2, j3]))
      | (refine guardK_nbeq (fun h => ?_) (fun h => ?_) <;> (try simp (disch := first | omega | (simp only [List.length_take, List.length_drop, List.length_append, List.length_cons, List.length_nil, List.length_map]; omega)) [h, IntWalk.i64_in, IntWalk.i64_quo, hio, O12_7, O12_9, ga0, ga1, gb0, gb1, j1, j2, j3]))
      | (refine guardK_beq (fun h => ?_) (fun h => ?_) <;> (try simp (disch := first | omega | (simp only [List.length_take, List.length_drop, List.length_append, List.length_cons, List.length_nil, List.length_map]; omega)) [h, IntWalk.i64_in, IntWalk.i64_quo, hio, O12_7, O12_9, ga0, ga1, gb0, gb1, j1, j2, j3]))
      | (refine guardK_bne (fun h => ?_) (fun h => ?_) <;> (try simp (disch := first | omega | (simp only [List.length_take, List.length_drop, List.length_append, List.length_cons, List.length_nil, List.length_map]; omega)) [h, IntWalk.i64_in, IntWalk.i64_quo, hio, O12_7, O12_9, ga0, ga1, gb0, gb1, j1, j2, j3]))
      | (refine guardK_not (fun h => ?_) (fun h => ?_) <;> (try simp (disch := first | omega | (simp only [List.length_take, List.length_drop, List.length_append, List.length_cons, List.length_nil, List.length_map]; omega)) [h, IntWalk.i64_in, IntWalk.i64_quo, hio, O12_7, O12_9, ga0, ga1, gb0, gb1, j1, j2, j3]))
      | (refine guardK_split (fun h => ?_) (fun h => ?_) <;> (try simp (disch := first | omega | (simp only [List.length_take, List.length_drop, List.length_append, List.length_cons, List.length_nil, List.length_map]; omega)) [h, IntWalk.i64_in, IntWalk.i64_quo, hio, O12_7, O12_9, ga0, ga1, gb0, gb1, j1, j2, j3]))
      | (refine condK_ndec (fun h => ?_) (fun h => ?_) <;> (try simp (disch := first | omega | (simp only [List.length_take, List.length_drop, List.length_append, List.length_cons, List.length_nil, List.length_map]; omega)) [h, IntWalk.i64_in, IntWalk.i64_quo, hio, O12_7, O12_9, ga0, ga1, gb0, gb1, j1, j2, j3]))
      | (refine condK_dec (fun h => ?_) (fun h => ?_) <;> (try simp (disch := first | omega | (simp only [List.length_take, List.length_drop, List.length_append, List.length_cons, List.length_nil, List.length_map]; omega)) [h, IntWalk.i64_in, IntWalk.i64_quo, hio, O12_7, O12_9, ga0, ga1, gb0, gb1, j1, j2, j3]))
      | (refine condK_nbeq (fun h => ?_) (fun h => ?_) <;> (try simp (disch := first | omega | (simp only [List.length_take, List.length_drop, List.length_append, List.length_cons, List.length_nil, List.length_map]; omega)) [h, IntWalk.i64_in, IntWalk.i64_quo, hio, O12_7, O12_9, ga0, ga1, gb0, gb1, j1, j2, j3]))
      | (refine condK_beq (fun h => ?_) (fun h => ?_) <;> (try simp (disch := first | omega | (simp only [List.length_take, List.length_drop, List.length_append, List.length_cons, List.length_nil, List.length_map]; omega)) [h, IntWalk.i64_in, IntWalk.i64_quo, hio, O12_7, O12_9, ga0, ga1, gb0, gb1, j1, j2, j3]))
      | (refine condK_bne (fun h => ?_) (fun h => ?_) <;> (try simp (disch := first | omega | (simp only [List.length_take, List.length_drop, List.length_append, List.length_cons, List.length_nil, List.length_map]; omega)) [h, IntWalk.i64_in, IntWalk.i64_quo, hio, O12_7, O12_9, ga0, ga1, gb0, gb1, j1, j2, j3]))
      | (refine condK_not (fun h => ?_) (fun h => ?_) <;> (try simp (disch := first | omega | (simp only [List.length_take, List.length_drop, List.length_append, List.length_cons, List.length_nil, List.length_map]; omega)) [h, IntWalk.i64_in, IntWalk.i64_quo, hio, O12_7, O12_9, ga0, ga1, gb0, gb1, j1, j2, j3]))
      | (refine condK_split (fun h => ?_) (fun h => ?_) <;> (try simp (disch := first | omega | (simp only [List.length_take, List.length_drop, List.length_append, List.length_cons, List.length_nil, List.length_map]; omega)) [h, IntWalk.i64_in, IntWalk.i64_quo, hio, O12_7, O12_9, ga0, ga1, gb0, gb1, j1, j2, j3]))
end Go.Proofs.Ytghodhkcjjjjnaa

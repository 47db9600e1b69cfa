/- Fabrics: the reference's writer. -/
import Derived.Test.YtjceilhmgbdgiaaZFF
import Derived.Test.YtjceilhmgbdgiaaZCodeG
set_option linter.all false
namespace Go.Proofs.Ytjceilhmgbdgiaa
open Go.Am

theorem rseal_spec (l : List UInt8) (hl : l.length ≤ 1048576) (st : St) : ASpec Try.prog 144 [.sl .any (ofBytes l)] st fun v st' => v = .sl .any (ofBytes (seal_ l)) ∧ st' = st := by
  refine pure_of (R := fun v => v = _) H6s F144 rfl ?_
  simp (disch := first | omega | assumption | (simp only [LL]; omega)) [WW, c144]
  simp [seal_, crcB]
  omega
noncomputable def I1 : Orc := H6.add 144 (tab (fun x : List UInt8 => [.sl .any (ofBytes x)]) (fun x => .sl .any (ofBytes (seal_ x))) fun x => x.length ≤ 1048576)
theorem I1s : OSound Try.prog I1 := H6s.tab fun x h st => rseal_spec x h st
@[simp] theorem I1_144 (l : List UInt8) (h : l.length ≤ 1048576) : I1 144 [.sl .any (ofBytes l)] = some (.sl .any (ofBytes (seal_ l))) := by
  rw [I1, Orc.add_same]
  exact tab_eq (fun x y h => by simp at h; simp [h]) (x := (l)) h
@[simp] theorem I1_o (f : Nat) (args : List AV) (h : f ≠ 144) : I1 f args = H6 f args := by
  rw [I1, Orc.add_other _ _ _ _ _ h]
theorem rcheck_spec (l : List Ms) (hw : okW l) (hl : l.length ≤ 1048576) (st : St) : ASpec Try.prog 93 [.agg [.sl .any (mls l)]] st fun v st' => v = .int .i64 (if checkF l = true then 0 else 2) ∧ st' = st := by
  refine pure_of (R := fun v => v = _) I1s F93 rfl ?_
  by_cases hg : 200 < l.length
  · have hg' : (200 : Int) < l.length := by omega
    have hc : ¬ checkF l = true := by simp [checkF]; omega
    simp (disch := first | omega | assumption | (simp only [LL]; omega)) [WW, c93, hg', hc]
  have hg' : ¬ (200 : Int) < l.length := by omega
  simp (disch := first | omega | assumption | (simp only [LL]; omega)) [WW, c93, hg']
  refine awC_loopW (fun k env s => ∃ i, k + i = l.length ∧ env 1 = .rptr (.agg [.sl .any (mls l)]) ∧ env 3 = .int .i64 i ∧ s = st ∧ (l.take i).all mayM = true) l.length ?_ ?_
  · exact ⟨0, by simp⟩
  rintro k env s ⟨i, hk, e1, e3, rfl, hm⟩
  by_cases hi : i < l.length
  case neg =>
    have hi' : ¬ (i : Int) < l.length := by omega
    rw [List.take_of_length_le (by omega)] at hm
    have hc : checkF l = true := by rw [checkF, hm]; simp; omega
    simp (disch := first | omega | assumption | (simp only [LL]; omega)) [WW, e1, e3, hi', hc]
  have hi' : (i : Int) < l.length := by omega
  have hwi := okW_get hw hi
  by_cases hmi : mayM l[i] = true
  · simp (disch := first | omega | assumption | (simp only [LL]; omega)) [WW, e1, e3, hi, hi', hmi, hwi]
    refine ⟨k - 1, by omega, i + 1, by omega, by omega, ?_⟩
    rw [List.take_succ_eq_append_getElem hi]
    intro x hx
    rcases List.mem_append.1 hx with h | h
    · exact List.all_eq_true.1 hm x h
    · rw [List.mem_singleton.1 h]; exact hmi
  · have hc : ¬ checkF l = true := by
      intro h
      exact hmi (checkF_may h _ (List.getElem_mem hi))
    simp (disch := first | omega | assumption | (simp only [LL]; omega)) [WW, e1, e3, hi, hi', hmi, hwi, hc]
noncomputable def I2 : Orc := I1.add 93 (tab (fun x : List Ms => [.agg [.sl .any (mls x)]]) (fun x => .int .i64 (if checkF x = true then 0 else 2)) fun x => okW x ∧ x.length ≤ 1048576)
theorem I2s : OSound Try.prog I2 := I1s.tab fun x h st => rcheck_spec x h.1 h.2 st
@[simp] theorem I2_93 (l : List Ms) (h : okW l ∧ l.length ≤ 1048576) : I2 93 [.agg [.sl .any (mls l)]] = some (.int .i64 (if checkF l = true then 0 else 2)) := by
  rw [I2, Orc.add_same]
  exact tab_eq (fun x y h => by simp at h; simp [h]) (x := (l)) h
@[simp] theorem I2_o (f : Nat) (args : List AV) (h : f ≠ 93) : I2 f args = I1 f args := by
  rw [I2, Orc.add_other _ _ _ _ _ h]
theorem flag_spec (b : Bool) (st : St) : ASpec Try.prog 143 [.bool b] st fun v st' => v = u8 (if b = true then 1 else 0) ∧ st' = st := by
  refine pure_of (R := fun v => v = _) I2s F143 rfl ?_
  cases b
  · simp (disch := first | omega | assumption | (simp only [LL]; omega)) [WW, c143]
    rfl
  · simp (disch := first | omega | assumption | (simp only [LL]; omega)) [WW, c143]
    rfl
noncomputable def I3 : Orc := I2.add 143 (tab (fun x : Bool => [.bool x]) (fun x => u8 (if x = true then 1 else 0)) fun x => True)
theorem I3s : OSound Try.prog I3 := I2s.tab fun x h st => flag_spec x st
@[simp] theorem I3_143 (b : Bool) : I3 143 [.bool b] = some (u8 (if b = true then 1 else 0)) := by
  rw [I3, Orc.add_same]
  exact tab_eq (fun x y h => by simp at h; simp [h]) (x := (b)) trivial
@[simp] theorem I3_o (f : Nat) (args : List AV) (h : f ≠ 143) : I3 f args = I2 f args := by
  rw [I3, Orc.add_other _ _ _ _ _ h]
theorem three_clip {bs : List UInt8} {n : Int} {h : List Blk} {tk : List (Nat × Nat)} (hb : bs.length ≤ 1000) (hn : 0 ≤ n) : ASpec Try.prog 140 [.sl .clip (ofBytes bs), .int .i64 n] ⟨h, tk⟩ fun v st' => v = .sl (.own tk.length) (ofBytes (bs ++ numB 3 n)) ∧ st' = ⟨h, tk ++ [(bs.length + 3, 1)]⟩ := by
  refine raw_of I3s F140 rfl ?_
  simp (disch := first | omega | assumption | (simp only [LL]; omega)) [WW, c140, shr_i64]
  refine ⟨by omega, .inl ⟨by simp, by simp, ?_, rfl⟩⟩
  rw [numB, if_neg (by decide), if_neg (by decide), show n / 256 / 256 = n / 65536 by omega]
  rfl
theorem three_own {bs : List UInt8} {n : Int} {a : Nat} {h : List Blk} {tk : List (Nat × Nat)} (hb : bs.length ≤ 1000) (hn : 0 ≤ n) (ha : a = bs.length) : ASpec Try.prog 140 [.sl (.own tk.length) (ofBytes bs), .int .i64 n] ⟨h, tk ++ [(a, 1)]⟩ fun v st' => v = .sl (.own tk.length) (ofBytes (bs ++ numB 3 n)) ∧ st' = ⟨h, tk ++ [(bs.length + 3, 1)]⟩ := by
  subst ha
  refine raw_of I3s F140 rfl ?_
  simp (disch := first | omega | assumption | (simp only [LL]; omega)) [WW, c140, shr_i64]
  refine ⟨by omega, .inl ⟨by simp, by simp, ?_, rfl⟩⟩
  rw [numB, if_neg (by decide), if_neg (by decide), show n / 256 / 256 = n / 65536 by omega]
  rfl
theorem value_own {bs : List UInt8} {v : Vl} {a : Nat} {h : List Blk} {tk : List (Nat × Nat)} (hb : bs.length ≤ 1000) (ha : a = bs.length) : ASpec Try.prog 141 [.sl (.own tk.length) (ofBytes bs), .agg [u8 v.v0, u8 v.v1, u8 v.v2, u8 v.v3, u8 v.v4, u8 v.v5, u8 v.v6, u8 v.v7]] ⟨h, tk ++ [(a, 1)]⟩ fun v' st' => v' = .sl (.own tk.length) (ofBytes (bs ++ vlB v)) ∧ st' = ⟨h, tk ++ [(bs.length + 8, 1)]⟩ := by
  subst ha
  refine raw_of I3s F141 rfl ?_
  simp (disch := first | omega | assumption | (simp only [LL]; omega)) [WW, c141]
  refine awC_loopU 9 ?_
  simp (disch := first | omega | assumption | (simp only [LL]; omega)) [WW]
  exact ⟨by omega, by omega, by omega, by omega, by omega, by omega, by omega, by omega, .inl ⟨by simp, by simp, rfl, rfl⟩⟩
set_option maxRecDepth 20000 in
theorem writes_own {bs : List UInt8} {l : List Wr} {a : Nat} {h : List Blk} {tk : List (Nat × Nat)} (hb : bs.length ≤ 1000) (hl : l.length ≤ 1000) (ha : a = bs.length) : ASpec Try.prog 142 [.sl (.own tk.length) (ofBytes bs), .sl .any (wrs l)] ⟨h, tk ++ [(a, 1)]⟩ fun v' st' => v' = .sl (.own tk.length) (ofBytes (bs ++ wsB l)) ∧ st' = ⟨h, tk ++ [((bs ++ wsB l).length, 1)]⟩ := by
  subst ha
  refine raw_of I3s F142 rfl ?_
  simp (disch := first | omega | assumption | (simp only [LL]; omega)) [WW, c142]
  refine ⟨by omega, ?_⟩
  refine awC_loopW (fun k env s => ∃ i bs', k + i = l.length ∧ bs' = bs ++ UInt8.ofInt l.length :: ((l.take i).map wb).flatten ∧ env 0 = .sl (.own tk.length) (ofBytes bs') ∧ env 1 = .sl .any (wrs l) ∧ env 5 = .int .i64 i ∧ s = ⟨h, tk ++ [(bs'.length, 1)]⟩) l.length ?_ ?_
  · exact ⟨0, bs ++ [UInt8.ofInt l.length], by simp⟩
  rintro k env s ⟨i, bs', hk, hbs, e0, e1, e5, rfl⟩
  have hbl : bs'.length = bs.length + 1 + 9 * min i l.length := by
    have h9 : ∀ x : List Wr, (x.map wb).flatten.length = 9 * x.length := by
      intro x
      induction x with
      | nil => rfl
      | cons y x ih => rw [List.map_cons, List.flatten_cons, List.length_append, ih, List.length_cons]; simp [wb]; omega
    rw [hbs, List.length_append, List.length_cons, h9, List.length_take]
    omega
  by_cases hi : i < l.length
  · have hi' : (i : Int) < l.length := by omega
    simp (disch := first | omega | assumption | (simp only [LL]; omega)) [WW, e0, e1, e5, hi, hi']
    refine ⟨by omega, ?_⟩
    refine awC_loopU 9 ?_
    simp (disch := first | omega | assumption | (simp only [LL]; omega)) [WW, e0, e1, e5, hi, hi']
    have hsum : ∀ x : List Wr, (x.map (List.length ∘ wb)).sum = 9 * x.length := by
      intro x
      induction x with
      | nil => rfl
      | cons y x ih => rw [List.map_cons, List.sum_cons, ih, List.length_cons]; simp [wb]; omega
    refine ⟨by omega, by omega, by omega, by omega, by omega, by omega, by omega, by omega, k - 1, by omega, i + 1, by omega, ?_, by omega, ?_⟩
    · rw [hbs, ← List.map_take, List.take_succ_eq_append_getElem hi, List.map_append, List.flatten_append, List.append_assoc]
      rfl
    · rw [← List.map_take, hsum, List.length_take]
      omega
  · have hi' : ¬ (i : Int) < l.length := by omega
    simp (disch := first | omega | assumption | (simp only [LL]; omega)) [WW, e0, e1, e5, hi, hi']
    rw [List.take_of_length_le (by omega)] at hbs
    exact .inl ⟨by simp, by simp, by rw [hbs]; rfl, by rw [hbs]; simp [wsB]⟩
@[simp] theorem numB3_length (n : Int) : (numB 3 n).length = 3 := rfl
theorem wsB_length (l : List Wr) : (wsB l).length = 1 + 9 * l.length := by
  have h9 : ∀ x : List Wr, (x.map wb).flatten.length = 9 * x.length := by
    intro x
    induction x with
    | nil => rfl
    | cons y x ih => rw [List.map_cons, List.flatten_cons, List.length_append, ih, List.length_cons]; simp [wb]; omega
  rw [wsB, List.length_cons, h9]
  omega
end Go.Proofs.Ytjceilhmgbdgiaa

/- frame: what its functions hand back. -/
import Derived.Test.YtghodhkcjjjjnaaZSums
set_option linter.all false
namespace Go.Proofs.Ytghodhkcjjjjnaa
open Go.Am

structure Fr where
  seq : Int
  inc : Int
  part : Int
  of : Int
  mark : BitVec 32
  load : List UInt8

@[simp] def frA (f : Fr) : AV := .agg [.int .i64 f.seq, .int .i64 f.inc, .int .i64 f.part, .int .i64 f.of, u32 f.mark, .sl .any (ofBytes f.load)]

def may (f : Fr) : Bool :=
  decide (1 ≤ f.seq ∧ f.seq ≤ 1099511627776 ∧ 0 ≤ f.inc ∧ f.inc ≤ 1048576 ∧ 1 ≤ f.of ∧ f.of ≤ 2 ∧ 0 ≤ f.part ∧ f.part < f.of ∧ (if f.part = f.of - 1 then 1 ≤ f.load.length ∧ f.load.length ≤ 45 else f.load.length = 45))

theorem may_spec (f : Fr) (st : St) : ASpec Try.prog 11 [frA f] st fun v st' => v = .bool (may f) ∧ st' = st := by
  refine pure_of (R := fun v => v = _) O5s F11 rfl ?_
  simp (disch := omega) [IntWalk.i64_in, IntWalk.i64_quo, c11]
  repeat' first
    | (refine region_static rfl (by decide +kernel) ?_; try simp (disch := omega) [IntWalk.i64_in, IntWalk.i64_quo])
    | (refine guardK_ndec (fun h => ?_) (fun h => ?_) <;> (try simp (disch := omega) [h, IntWalk.i64_in, IntWalk.i64_quo]))
    | (refine guardK_dec (fun h => ?_) (fun h => ?_) <;> (try simp (disch := omega) [h, IntWalk.i64_in, IntWalk.i64_quo]))
    | (refine guardK_nbeq (fun h => ?_) (fun h => ?_) <;> (try simp (disch := omega) [h, IntWalk.i64_in, IntWalk.i64_quo]))
    | (refine guardK_beq (fun h => ?_) (fun h => ?_) <;> (try simp (disch := omega) [h, IntWalk.i64_in, IntWalk.i64_quo]))
    | (refine guardK_bne (fun h => ?_) (fun h => ?_) <;> (try simp (disch := omega) [h, IntWalk.i64_in, IntWalk.i64_quo]))
    | (refine guardK_not (fun h => ?_) (fun h => ?_) <;> (try simp (disch := omega) [h, IntWalk.i64_in, IntWalk.i64_quo]))
    | (refine guardK_split (fun h => ?_) (fun h => ?_) <;> (try simp (disch := omega) [h, IntWalk.i64_in, IntWalk.i64_quo]))
    | (refine condK_ndec (fun h => ?_) (fun h => ?_) <;> (try simp (disch := omega) [h, IntWalk.i64_in, IntWalk.i64_quo]))
    | (refine condK_dec (fun h => ?_) (fun h => ?_) <;> (try simp (disch := omega) [h, IntWalk.i64_in, IntWalk.i64_quo]))
    | (refine condK_nbeq (fun h => ?_) (fun h => ?_) <;> (try simp (disch := omega) [h, IntWalk.i64_in, IntWalk.i64_quo]))
    | (refine condK_beq (fun h => ?_) (fun h => ?_) <;> (try simp (disch := omega) [h, IntWalk.i64_in, IntWalk.i64_quo]))
    | (refine condK_bne (fun h => ?_) (fun h => ?_) <;> (try simp (disch := omega) [h, IntWalk.i64_in, IntWalk.i64_quo]))
    | (refine condK_not (fun h => ?_) (fun h => ?_) <;> (try simp (disch := omega) [h, IntWalk.i64_in, IntWalk.i64_quo]))
    | (refine condK_split (fun h => ?_) (fun h => ?_) <;> (try simp (disch := omega) [h, IntWalk.i64_in, IntWalk.i64_quo]))
  all_goals first
    | (apply decide_eq_false; omega)
    | (rw [may]; apply decide_eq_false; split <;> omega)
    | (rw [Bool.eq_iff_iff]; simp only [may, decide_eq_true_eq, beq_iff_eq, Bool.false_eq_true]; split <;> omega)

theorem may_len {f : Fr} (h : may f = true) : f.load.length ≤ 45 := by
  simp only [may, decide_eq_true_eq] at h
  obtain ⟨_, _, _, _, _, _, _, _, h⟩ := h
  split at h <;> omega
attribute [irreducible] may

noncomputable def O6 : Orc := O5.add 11 (tab (fun f : Fr => [frA f]) (fun f => .bool (may f)) fun _ => True)
theorem O6s : OSound Try.prog O6 := O5s.tab fun x h st => may_spec x st
theorem O6_20 (l : List UInt8) (h : l.length ≤ 2147483648) : O6 20 [.sl .any (ofBytes l)] = some (u32 (crc l)) := by
  rw [O6, Orc.add_other _ _ _ _ _ (by decide), O5_20 l h]
theorem frA_inj {f g : Fr} (h : frA f = frA g) : f = g := by
  cases f; cases g
  simp at h
  simp [h]
theorem O6_11 (f : Fr) : O6 11 [frA f] = some (.bool (may f)) := by
  rw [O6, Orc.add_same]
  exact tab_eq (fun x y h => by rw [frA_inj (f := x) (g := y) (by simpa using h)]) (x := f) trivial

/-- A record's frames. -/
def mkFr (l : List UInt8) (seq inc : Int) (of i : Nat) : Fr := ⟨seq + i, inc, i, of, crc l, (l.drop (45 * i)).take 45⟩
def cutOf (l : List UInt8) : Nat := (l.length + 44) / 45
def cut (l : List UInt8) (seq inc : Int) : List Fr × Int :=
  if l.length = 0 ∨ seq < 1 ∨ 1099511627776 < seq ∨ inc < 0 ∨ 1048576 < inc then ([], 2)
  else if 2 < cutOf l then ([], 3)
  else if 1099511627776 < seq + cutOf l - 1 then ([], 2)
  else ((List.range (cutOf l)).map (mkFr l seq inc (cutOf l)), 0)

def frs (l : List UInt8) (seq inc : Int) (i : Nat) : List AV := (List.range i).map fun j => frA (mkFr l seq inc (cutOf l) j)
theorem frs_length (l : List UInt8) (seq inc : Int) (i : Nat) : (frs l seq inc i).length = i := by simp [frs]
theorem frs_0 (l : List UInt8) (seq inc : Int) : frs l seq inc 0 = [] := rfl
theorem frs_allSz (l : List UInt8) (seq inc : Int) (i : Nat) : allSz 6 (frs l seq inc i) = true := allSz_map _ _ _ fun _ => rfl
theorem frs_norm (l : List UInt8) (seq inc : Int) (i : Nat) : normL (frs l seq inc i) = frs l seq inc i := normL_map _ _ fun x => by simp
theorem frs_ok (l : List UInt8) (seq inc : Int) (i n m : Nat) : okL n m (frs l seq inc i) = true := okL_map _ _ fun x _ => by simp
theorem frs_step (l : List UInt8) (seq inc : Int) (i : Nat) : frs l seq inc i ++ [.agg [.int .i64 (seq + i), .int .i64 inc, .int .i64 i, .int .i64 (cutOf l), u32 (crc l), .sl .any (ofBytes ((l.drop (45 * i)).take 45))]] = frs l seq inc (i + 1) := by
  simp [frs, List.range_succ, mkFr]

theorem cut_spec (l : List UInt8) (seq inc : Int) (hl : l.length ≤ 1048576) (st : St) : ASpec Try.prog 8 [.sl .any (ofBytes l), .int .i64 seq, .int .i64 inc] st fun v st' => v = .tup [.sl .any ((cut l seq inc).1.map frA), .int .i64 (cut l seq inc).2] ∧ st' = st := by
  refine pure_of (R := fun v => v = _) O6s F8 rfl ?_
  by_cases h0 : l = []
  · subst h0
    simp (disch := omega) [IntWalk.i64_in, IntWalk.i64_quo, c8, cut]
  have h1 : 0 < l.length := List.length_pos_iff.2 h0
  have h2 : ((l.length : Int) + 45 - 1) / 45 = cutOf l := by unfold cutOf; omega
  simp (disch := omega) [IntWalk.i64_in, IntWalk.i64_quo, c8, h0, h2]
  repeat' first
    | (refine region_static rfl (by decide +kernel) ?_; try simp (disch := omega) [IntWalk.i64_in, IntWalk.i64_quo, h0, h2])
    | (refine guardK_ndec (fun h => ?_) (fun h => ?_) <;> (try simp (disch := omega) [h, IntWalk.i64_in, IntWalk.i64_quo, h0, h2]))
    | (refine guardK_dec (fun h => ?_) (fun h => ?_) <;> (try simp (disch := omega) [h, IntWalk.i64_in, IntWalk.i64_quo, h0, h2]))
    | (refine guardK_nbeq (fun h => ?_) (fun h => ?_) <;> (try simp (disch := omega) [h, IntWalk.i64_in, IntWalk.i64_quo, h0, h2]))
    | (refine guardK_beq (fun h => ?_) (fun h => ?_) <;> (try simp (disch := omega) [h, IntWalk.i64_in, IntWalk.i64_quo, h0, h2]))
    | (refine guardK_bne (fun h => ?_) (fun h => ?_) <;> (try simp (disch := omega) [h, IntWalk.i64_in, IntWalk.i64_quo, h0, h2]))
    | (refine guardK_not (fun h => ?_) (fun h => ?_) <;> (try simp (disch := omega) [h, IntWalk.i64_in, IntWalk.i64_quo, h0, h2]))
    | (refine guardK_split (fun h => ?_) (fun h => ?_) <;> (try simp (disch := omega) [h, IntWalk.i64_in, IntWalk.i64_quo, h0, h2]))
    | (refine condK_ndec (fun h => ?_) (fun h => ?_) <;> (try simp (disch := omega) [h, IntWalk.i64_in, IntWalk.i64_quo, h0, h2]))
    | (refine condK_dec (fun h => ?_) (fun h => ?_) <;> (try simp (disch := omega) [h, IntWalk.i64_in, IntWalk.i64_quo, h0, h2]))
    | (refine condK_nbeq (fun h => ?_) (fun h => ?_) <;> (try simp (disch := omega) [h, IntWalk.i64_in, IntWalk.i64_quo, h0, h2]))
    | (refine condK_beq (fun h => ?_) (fun h => ?_) <;> (try simp (disch := omega) [h, IntWalk.i64_in, IntWalk.i64_quo, h0, h2]))
    | (refine condK_bne (fun h => ?_) (fun h => ?_) <;> (try simp (disch := omega) [h, IntWalk.i64_in, IntWalk.i64_quo, h0, h2]))
    | (refine condK_not (fun h => ?_) (fun h => ?_) <;> (try simp (disch := omega) [h, IntWalk.i64_in, IntWalk.i64_quo, h0, h2]))
    | (refine condK_split (fun h => ?_) (fun h => ?_) <;> (try simp (disch := omega) [h, IntWalk.i64_in, IntWalk.i64_quo, h0, h2]))
  all_goals try (first | (rw [cut, if_pos (by omega)]; simp; done) | (rw [cut, if_neg (by omega), if_pos (by omega)]; simp; done) | (rw [cut, if_neg (by omega), if_neg (by omega), if_pos (by omega)]; simp; done))
  simp (disch := omega) [IntWalk.i64_in, IntWalk.i64_quo, O6_20]
  refine awC_loopOwn 6 6 [] (by simp) (fun k env s => ∃ i, k + i = cutOf l ∧ env 0 = .sl .any (ofBytes (l.drop (45 * i))) ∧ env 1 = .int .i64 seq ∧ env 2 = .int .i64 inc ∧ env 6 = .sl (.own st.toks.length) (frs l seq inc i) ∧ env 8 = .int .i64 (cutOf l) ∧ env 9 = u32 (crc l) ∧ env 48 = .int .i64 (cutOf l) ∧ env 49 = .int .i64 i ∧ s = ⟨st.heap, st.toks ++ [(i, 6)]⟩) (cutOf l) ?_ ?_
  · exact ⟨0, by simp [frs_0]⟩
  rintro k env s ⟨i, hk, e0, e1, e2, e6, e8, e9, e48, e49, rfl⟩
  by_cases hi : i < cutOf l
  · have hi' : (i : Int) < cutOf l := by omega
    obtain ⟨n, hn⟩ : ∃ n, n = min 45 (l.length - 45 * i) := ⟨_, rfl⟩
    have hm : min (45 : Int) ((l.length - 45 * i : Nat) : Int) = n := by omega
    have ht : (l.drop (45 * i)).take n = (l.drop (45 * i)).take 45 := by
      rw [hn, ← List.length_drop, List.take_eq_take_iff]
      omega
    have hd : l.drop (45 * i + n) = l.drop (45 * (i + 1)) := by
      by_cases h : 45 ≤ l.length - 45 * i
      · rw [hn, Nat.min_eq_left h]
        rfl
      · rw [List.drop_of_length_le (by omega), List.drop_of_length_le (by omega)]
    have he : (l.drop (45 * (i + 1))).take (l.length - 45 * i - n) = l.drop (45 * (i + 1)) := by
      apply List.take_of_length_le
      simp
      omega
    simp (disch := omega) [IntWalk.i64_in, IntWalk.i64_quo, e0, e1, e2, e6, e8, e9, e48, e49, hi, hi', hm, ht, hd, he, frs_length, frs_allSz, frs_norm, frs_ok, frs_step]
    refine ⟨by omega, by omega, by omega, by omega, k - 1, by omega, [0, 1, 2, 6, 8, 9, 48, 49], _, .tok (tk := st.toks ++ [(i + 1, 6)]) (by simp) (by simp) (by simp) ?_, i + 1, by omega, ?_⟩
    · simp [e1, e2, e8, e9, e48, frs_ok]
    · simp
  · have hi' : ¬ (i : Int) < cutOf l := by omega
    have : i = cutOf l := by omega
    simp (disch := omega) [IntWalk.i64_in, IntWalk.i64_quo, e0, e1, e2, e6, e8, e9, e48, e49, hi, hi', frs_length, frs_allSz, frs_norm, frs_ok]
    rw [cut, if_neg (by omega), if_neg (by omega), if_neg (by omega), this]
    simp [frs]

noncomputable def O7 : Orc := O6.add 8 (tab (fun x : List UInt8 × Int × Int => [.sl .any (ofBytes x.1), .int .i64 x.2.1, .int .i64 x.2.2]) (fun x => .tup [.sl .any ((cut x.1 x.2.1 x.2.2).1.map frA), .int .i64 (cut x.1 x.2.1 x.2.2).2]) fun x => x.1.length ≤ 1048576)
theorem O7s : OSound Try.prog O7 := O6s.tab fun x h st => cut_spec x.1 x.2.1 x.2.2 h st
theorem O7_8 (l : List UInt8) (seq inc : Int) (h : l.length ≤ 1048576) : O7 8 [.sl .any (ofBytes l), .int .i64 seq, .int .i64 inc] = some (.tup [.sl .any ((cut l seq inc).1.map frA), .int .i64 (cut l seq inc).2]) := by
  rw [O7, Orc.add_same]
  exact tab_eq (fun x y h => by simp at h; rw [h.1, h.2.1, h.2.2]) (x := (l, seq, inc)) h
theorem O7_11 (f : Fr) : O7 11 [.agg [.int .i64 f.seq, .int .i64 f.inc, .int .i64 f.part, .int .i64 f.of, u32 f.mark, .sl .any (ofBytes f.load)]] = some (.bool (may f)) := by
  rw [O7, Orc.add_other _ _ _ _ _ (by decide)]
  exact O6_11 f
theorem O7_20 (l : List UInt8) (h : l.length ≤ 2147483648) : O7 20 [.sl .any (ofBytes l)] = some (u32 (crc l)) := by
  rw [O7, Orc.add_other _ _ _ _ _ (by decide), O6_20 l h]

/-- Do frames follow one another? -/
def partOk (l : List Fr) (g : Fr) (i : Nat) (f : Fr) : Bool :=
  may f && (f.part == (i : Int)) && (f.of == (l.length : Int)) && (f.seq == IntKind.i64.wrap (g.seq + i)) && (f.inc == g.inc) && (f.mark == g.mark)
def joined (l : List Fr) : List UInt8 := (l.map Fr.load).flatten
def partsOk (l : List Fr) (g : Fr) (i : Nat) : Prop := ∀ j f, j < i → l[j]? = some f → partOk l g j f = true
noncomputable instance (l : List Fr) (g : Fr) (i : Nat) : Decidable (partsOk l g i) := Classical.propDecidable _
noncomputable def joinA (l : List Fr) : AV := match l[0]? with
  | some g => if l.length ≤ 2 ∧ partsOk l g l.length ∧ crc (joined l) = g.mark then .tup [.sl .any (ofBytes (joined l)), .int .i64 0] else .tup [.sl .any [], .int .i64 40]
  | none => .tup [.sl .any [], .int .i64 40]

theorem joinA_bad {l : List Fr} {g f : Fr} {i : Nat} (h0 : l[0]? = some g) (hi : l[i]? = some f) (hb : partOk l g i f = false) : joinA l = .tup [.sl .any [], .int .i64 40] := by
  simp only [joinA, h0]
  rw [if_neg]
  rintro ⟨_, h, _⟩
  have := h i f (List.getElem?_eq_some_iff.1 hi).1 hi
  rw [hb] at this
  cases this
theorem joined_step (l : List Fr) (i : Nat) (h : i < l.length) : joined (l.take (i + 1)) = joined (l.take i) ++ l[i].load := by
  rw [List.take_succ_eq_append_getElem h, joined, List.map_append, List.flatten_append]
  simp [joined]

theorem join_f (l : List Fr) (hl : l.length ≤ 1048576) (st : St) : ASpec Try.prog 10 [.sl .any (l.map frA)] st fun v st' => v = joinA l ∧ st' = st := by
  refine pure_of (R := fun v => v = _) O7s F10 rfl ?_
  cases h0 : l[0]? with
  | none =>
    have : l = [] := by simpa using h0
    subst this
    simp (disch := omega) [IntWalk.i64_in, IntWalk.i64_quo, c10]
    refine awC_loop (fun k env s => env 4 = .bool false ∧ env 16 = .int .i64 0 ∧ env 17 = .int .i64 0 ∧ s = st) 0 ?_ ?_
    · simp
    rintro k env s ⟨e4, e16, e17, rfl⟩
    simp (disch := omega) [IntWalk.i64_in, IntWalk.i64_quo, e4, e16, e17]
    repeat' first
      | (refine region_static rfl (by decide +kernel) ?_; try simp (disch := omega) [IntWalk.i64_in, IntWalk.i64_quo, e4])
      | (refine guardK_ndec (fun h => ?_) (fun h => ?_) <;> (try simp (disch := omega) [h, IntWalk.i64_in, IntWalk.i64_quo, e4]))
      | (refine guardK_dec (fun h => ?_) (fun h => ?_) <;> (try simp (disch := omega) [h, IntWalk.i64_in, IntWalk.i64_quo, e4]))
      | (refine guardK_nbeq (fun h => ?_) (fun h => ?_) <;> (try simp (disch := omega) [h, IntWalk.i64_in, IntWalk.i64_quo, e4]))
      | (refine guardK_beq (fun h => ?_) (fun h => ?_) <;> (try simp (disch := omega) [h, IntWalk.i64_in, IntWalk.i64_quo, e4]))
      | (refine guardK_bne (fun h => ?_) (fun h => ?_) <;> (try simp (disch := omega) [h, IntWalk.i64_in, IntWalk.i64_quo, e4]))
      | (refine guardK_not (fun h => ?_) (fun h => ?_) <;> (try simp (disch := omega) [h, IntWalk.i64_in, IntWalk.i64_quo, e4]))
      | (refine guardK_split (fun h => ?_) (fun h => ?_) <;> (try simp (disch := omega) [h, IntWalk.i64_in, IntWalk.i64_quo, e4]))
      | (refine condK_ndec (fun h => ?_) (fun h => ?_) <;> (try simp (disch := omega) [h, IntWalk.i64_in, IntWalk.i64_quo, e4]))
      | (refine condK_dec (fun h => ?_) (fun h => ?_) <;> (try simp (disch := omega) [h, IntWalk.i64_in, IntWalk.i64_quo, e4]))
      | (refine condK_nbeq (fun h => ?_) (fun h => ?_) <;> (try simp (disch := omega) [h, IntWalk.i64_in, IntWalk.i64_quo, e4]))
      | (refine condK_beq (fun h => ?_) (fun h => ?_) <;> (try simp (disch := omega) [h, IntWalk.i64_in, IntWalk.i64_quo, e4]))
      | (refine condK_bne (fun h => ?_) (fun h => ?_) <;> (try simp (disch := omega) [h, IntWalk.i64_in, IntWalk.i64_quo, e4]))
      | (refine condK_not (fun h => ?_) (fun h => ?_) <;> (try simp (disch := omega) [h, IntWalk.i64_in, IntWalk.i64_quo, e4]))
      | (refine condK_split (fun h => ?_) (fun h => ?_) <;> (try simp (disch := omega) [h, IntWalk.i64_in, IntWalk.i64_quo, e4]))
    simp [joinA]
  | some g =>
    have hp : 0 < l.length := (List.getElem?_eq_some_iff.1 h0).1
    simp (disch := omega) [IntWalk.i64_in, IntWalk.i64_quo, c10, hp]
    by_cases h2 : l.length ≤ 2
    · have h2' : (l.length : Int) ≤ 2 := by omega
      simp (disch := omega) [IntWalk.i64_in, IntWalk.i64_quo, h2, h2']
      refine awC_loopOwn 2 1 [] (by simp) (fun k env s => ∃ i, k + i = l.length ∧ env 0 = .sl .any (l.map frA) ∧ env 2 = .sl (.own st.toks.length) (ofBytes (joined (l.take i))) ∧ env 4 = .bool true ∧ env 15 = .sl .any (l.map frA) ∧ env 16 = .int .i64 l.length ∧ env 17 = .int .i64 i ∧ partsOk l g i ∧ (joined (l.take i)).length ≤ 45 * i ∧ s = ⟨st.heap, st.toks ++ [((joined (l.take i)).length, 1)]⟩) l.length ?_ ?_
      · exact ⟨0, by simp [joined, partsOk]⟩
      rintro k env s ⟨i, hk, e0, e2, e4, e15, e16, e17, hpo, hjl, rfl⟩
      by_cases hi : i < l.length
      · have hi' : (i : Int) < l.length := by omega
        simp (disch := omega) [IntWalk.i64_in, IntWalk.i64_quo, e0, e2, e4, e15, e16, e17, hi, hi']
        have hg : l[0] = g := by simpa [hp] using h0
        repeat' first
          | (refine region_static rfl (by decide +kernel) ?_; try simp (disch := omega) [IntWalk.i64_in, IntWalk.i64_quo, e0, e2, e4, e15, e16, e17, O7_11, hg])
          | (refine guardK_ndec (fun h => ?_) (fun h => ?_) <;> (try simp (disch := omega) [h, IntWalk.i64_in, IntWalk.i64_quo, e0, e2, e4, e15, e16, e17, O7_11, hg]))
          | (refine guardK_dec (fun h => ?_) (fun h => ?_) <;> (try simp (disch := omega) [h, IntWalk.i64_in, IntWalk.i64_quo, e0, e2, e4, e15, e16, e17, O7_11, hg]))
          | (refine guardK_nbeq (fun h => ?_) (fun h => ?_) <;> (try simp (disch := omega) [h, IntWalk.i64_in, IntWalk.i64_quo, e0, e2, e4, e15, e16, e17, O7_11, hg]))
          | (refine guardK_beq (fun h => ?_) (fun h => ?_) <;> (try simp (disch := omega) [h, IntWalk.i64_in, IntWalk.i64_quo, e0, e2, e4, e15, e16, e17, O7_11, hg]))
          | (refine guardK_bne (fun h => ?_) (fun h => ?_) <;> (try simp (disch := omega) [h, IntWalk.i64_in, IntWalk.i64_quo, e0, e2, e4, e15, e16, e17, O7_11, hg]))
          | (refine guardK_not (fun h => ?_) (fun h => ?_) <;> (try simp (disch := omega) [h, IntWalk.i64_in, IntWalk.i64_quo, e0, e2, e4, e15, e16, e17, O7_11, hg]))
          | (refine guardK_split (fun h => ?_) (fun h => ?_) <;> (try simp (disch := omega) [h, IntWalk.i64_in, IntWalk.i64_quo, e0, e2, e4, e15, e16, e17, O7_11, hg]))
          | (refine condK_ndec (fun h => ?_) (fun h => ?_) <;> (try simp (disch := omega) [h, IntWalk.i64_in, IntWalk.i64_quo, e0, e2, e4, e15, e16, e17, O7_11, hg]))
          | (refine condK_dec (fun h => ?_) (fun h => ?_) <;> (try simp (disch := omega) [h, IntWalk.i64_in, IntWalk.i64_quo, e0, e2, e4, e15, e16, e17, O7_11, hg]))
          | (refine condK_nbeq (fun h => ?_) (fun h => ?_) <;> (try simp (disch := omega) [h, IntWalk.i64_in, IntWalk.i64_quo, e0, e2, e4, e15, e16, e17, O7_11, hg]))
          | (refine condK_beq (fun h => ?_) (fun h => ?_) <;> (try simp (disch := omega) [h, IntWalk.i64_in, IntWalk.i64_quo, e0, e2, e4, e15, e16, e17, O7_11, hg]))
          | (refine condK_bne (fun h => ?_) (fun h => ?_) <;> (try simp (disch := omega) [h, IntWalk.i64_in, IntWalk.i64_quo, e0, e2, e4, e15, e16, e17, O7_11, hg]))
          | (refine condK_not (fun h => ?_) (fun h => ?_) <;> (try simp (disch := omega) [h, IntWalk.i64_in, IntWalk.i64_quo, e0, e2, e4, e15, e16, e17, O7_11, hg]))
          | (refine condK_split (fun h => ?_) (fun h => ?_) <;> (try simp (disch := omega) [h, IntWalk.i64_in, IntWalk.i64_quo, e0, e2, e4, e15, e16, e17, O7_11, hg]))
        · have hm : may l[i] = true := by assumption
          have hlen := may_len hm
          have hpk : partOk l g i l[i] = true := by simp [partOk, *]
          refine ⟨by omega, k - 1, by omega, [0, 2, 4, 15, 16, 17], _, .tok (tk := st.toks ++ [((joined (l.take (i + 1))).length, 1)]) (by simp) (by simp [joined_step _ _ hi]) (by simp) ?_, i + 1, by omega, ?_⟩
          · simp [e0, e15, e16, okL_map]
          · simp [joined_step _ _ hi]
            refine ⟨fun j f hj hf => ?_, by omega⟩
            rcases Nat.lt_or_ge j i with hlt | hge
            · exact hpo j f hlt hf
            · have : j = i := by omega
              subst this
              simp [hi] at hf
              subst hf
              exact hpk
        all_goals
          rw [joinA_bad h0 (i := i) (f := l[i]) (by simp [hi]) (by simp [partOk, *])]
      · have hi' : ¬ (i : Int) < l.length := by omega
        have hil : i = l.length := by omega
        have hg : l[0] = g := by simpa [hp] using h0
        subst hil
        rw [List.take_length] at e2 hjl
        simp (disch := omega) [IntWalk.i64_in, IntWalk.i64_quo, e0, e2, e4, e15, e16, e17, hi, hi']
        repeat' first
          | (refine region_static rfl (by decide +kernel) ?_; try simp (disch := omega) [IntWalk.i64_in, IntWalk.i64_quo, e0, e2, e4, e15, e16, e17, O7_20, hg])
          | (refine guardK_ndec (fun h => ?_) (fun h => ?_) <;> (try simp (disch := omega) [h, IntWalk.i64_in, IntWalk.i64_quo, e0, e2, e4, e15, e16, e17, O7_20, hg]))
          | (refine guardK_dec (fun h => ?_) (fun h => ?_) <;> (try simp (disch := omega) [h, IntWalk.i64_in, IntWalk.i64_quo, e0, e2, e4, e15, e16, e17, O7_20, hg]))
          | (refine guardK_nbeq (fun h => ?_) (fun h => ?_) <;> (try simp (disch := omega) [h, IntWalk.i64_in, IntWalk.i64_quo, e0, e2, e4, e15, e16, e17, O7_20, hg]))
          | (refine guardK_beq (fun h => ?_) (fun h => ?_) <;> (try simp (disch := omega) [h, IntWalk.i64_in, IntWalk.i64_quo, e0, e2, e4, e15, e16, e17, O7_20, hg]))
          | (refine guardK_bne (fun h => ?_) (fun h => ?_) <;> (try simp (disch := omega) [h, IntWalk.i64_in, IntWalk.i64_quo, e0, e2, e4, e15, e16, e17, O7_20, hg]))
          | (refine guardK_not (fun h => ?_) (fun h => ?_) <;> (try simp (disch := omega) [h, IntWalk.i64_in, IntWalk.i64_quo, e0, e2, e4, e15, e16, e17, O7_20, hg]))
          | (refine guardK_split (fun h => ?_) (fun h => ?_) <;> (try simp (disch := omega) [h, IntWalk.i64_in, IntWalk.i64_quo, e0, e2, e4, e15, e16, e17, O7_20, hg]))
          | (refine condK_ndec (fun h => ?_) (fun h => ?_) <;> (try simp (disch := omega) [h, IntWalk.i64_in, IntWalk.i64_quo, e0, e2, e4, e15, e16, e17, O7_20, hg]))
          | (refine condK_dec (fun h => ?_) (fun h => ?_) <;> (try simp (disch := omega) [h, IntWalk.i64_in, IntWalk.i64_quo, e0, e2, e4, e15, e16, e17, O7_20, hg]))
          | (refine condK_nbeq (fun h => ?_) (fun h => ?_) <;> (try simp (disch := omega) [h, IntWalk.i64_in, IntWalk.i64_quo, e0, e2, e4, e15, e16, e17, O7_20, hg]))
          | (refine condK_beq (fun h => ?_) (fun h => ?_) <;> (try simp (disch := omega) [h, IntWalk.i64_in, IntWalk.i64_quo, e0, e2, e4, e15, e16, e17, O7_20, hg]))
          | (refine condK_bne (fun h => ?_) (fun h => ?_) <;> (try simp (disch := omega) [h, IntWalk.i64_in, IntWalk.i64_quo, e0, e2, e4, e15, e16, e17, O7_20, hg]))
          | (refine condK_not (fun h => ?_) (fun h => ?_) <;> (try simp (disch := omega) [h, IntWalk.i64_in, IntWalk.i64_quo, e0, e2, e4, e15, e16, e17, O7_20, hg]))
          | (refine condK_split (fun h => ?_) (fun h => ?_) <;> (try simp (disch := omega) [h, IntWalk.i64_in, IntWalk.i64_quo, e0, e2, e4, e15, e16, e17, O7_20, hg]))
        · simp [joinA, h0, h2, hpo, h]
        · simp [joinA, h0, h]
    · have h2' : ¬ (l.length : Int) ≤ 2 := by omega
      simp (disch := omega) [IntWalk.i64_in, IntWalk.i64_quo, h2, h2']
      refine awC_loop (fun k env s => env 4 = .bool false ∧ env 15 = .sl .any (l.map frA) ∧ env 16 = .int .i64 l.length ∧ env 17 = .int .i64 0 ∧ s = st) 0 ?_ ?_
      · simp
      rintro k env s ⟨e4, e15, e16, e17, rfl⟩
      simp (disch := omega) [IntWalk.i64_in, IntWalk.i64_quo, e4, e15, e16, e17, hp]
      repeat' first
        | (refine region_static rfl (by decide +kernel) ?_; try simp (disch := omega) [IntWalk.i64_in, IntWalk.i64_quo, e4, e15, e16, e17])
        | (refine guardK_ndec (fun h => ?_) (fun h => ?_) <;> (try simp (disch := omega) [h, IntWalk.i64_in, IntWalk.i64_quo, e4, e15, e16, e17]))
        | (refine guardK_dec (fun h => ?_) (fun h => ?_) <;> (try simp (disch := omega) [h, IntWalk.i64_in, IntWalk.i64_quo, e4, e15, e16, e17]))
        | (refine guardK_nbeq (fun h => ?_) (fun h => ?_) <;> (try simp (disch := omega) [h, IntWalk.i64_in, IntWalk.i64_quo, e4, e15, e16, e17]))
        | (refine guardK_beq (fun h => ?_) (fun h => ?_) <;> (try simp (disch := omega) [h, IntWalk.i64_in, IntWalk.i64_quo, e4, e15, e16, e17]))
        | (refine guardK_bne (fun h => ?_) (fun h => ?_) <;> (try simp (disch := omega) [h, IntWalk.i64_in, IntWalk.i64_quo, e4, e15, e16, e17]))
        | (refine guardK_not (fun h => ?_) (fun h => ?_) <;> (try simp (disch := omega) [h, IntWalk.i64_in, IntWalk.i64_quo, e4, e15, e16, e17]))
        | (refine guardK_split (fun h => ?_) (fun h => ?_) <;> (try simp (disch := omega) [h, IntWalk.i64_in, IntWalk.i64_quo, e4, e15, e16, e17]))
        | (refine condK_ndec (fun h => ?_) (fun h => ?_) <;> (try simp (disch := omega) [h, IntWalk.i64_in, IntWalk.i64_quo, e4, e15, e16, e17]))
        | (refine condK_dec (fun h => ?_) (fun h => ?_) <;> (try simp (disch := omega) [h, IntWalk.i64_in, IntWalk.i64_quo, e4, e15, e16, e17]))
        | (refine condK_nbeq (fun h => ?_) (fun h => ?_) <;> (try simp (disch := omega) [h, IntWalk.i64_in, IntWalk.i64_quo, e4, e15, e16, e17]))
        | (refine condK_beq (fun h => ?_) (fun h => ?_) <;> (try simp (disch := omega) [h, IntWalk.i64_in, IntWalk.i64_quo, e4, e15, e16, e17]))
        | (refine condK_bne (fun h => ?_) (fun h => ?_) <;> (try simp (disch := omega) [h, IntWalk.i64_in, IntWalk.i64_quo, e4, e15, e16, e17]))
        | (refine condK_not (fun h => ?_) (fun h => ?_) <;> (try simp (disch := omega) [h, IntWalk.i64_in, IntWalk.i64_quo, e4, e15, e16, e17]))
        | (refine condK_split (fun h => ?_) (fun h => ?_) <;> (try simp (disch := omega) [h, IntWalk.i64_in, IntWalk.i64_quo, e4, e15, e16, e17]))
      simp [joinA, h0, h2]

noncomputable def O8 : Orc := O7.add 10 (tab (fun l : List Fr => [.sl .any (l.map frA)]) joinA fun l => l.length ≤ 1048576)
theorem O8s : OSound Try.prog O8 := O7s.tab fun x h st => join_f x h st
theorem O8_10 (l : List Fr) (h : l.length ≤ 1048576) : O8 10 [.sl .any (l.map frA)] = some (joinA l) := by
  rw [O8, Orc.add_same]
  exact tab_eq (fun x y h => by
    simp only [List.cons.injEq, and_true, AV.sl.injEq, true_and] at h
    rw [(List.map_inj_right (fun a b e => frA_inj e)).1 h]) (x := l) h

theorem O8_11 (f : Fr) : O8 11 [.agg [.int .i64 f.seq, .int .i64 f.inc, .int .i64 f.part, .int .i64 f.of, u32 f.mark, .sl .any (ofBytes f.load)]] = some (.bool (may f)) := by
  rw [O8, Orc.add_other _ _ _ _ _ (by decide)]
  exact O7_11 f
theorem O8_8 (l : List UInt8) (seq inc : Int) (h : l.length ≤ 1048576) : O8 8 [.sl .any (ofBytes l), .int .i64 seq, .int .i64 inc] = some (.tup [.sl .any ((cut l seq inc).1.map frA), .int .i64 (cut l seq inc).2]) := by
  rw [O8, Orc.add_other _ _ _ _ _ (by decide)]
  exact O7_8 l seq inc h

theorem mkFr_may {l : List UInt8} {seq inc : Int} {i : Nat} (h : (cut l seq inc).2 = 0) (hi : i < cutOf l) : may (mkFr l seq inc (cutOf l) i) = true := by
  unfold cut at h
  split at h
  · cases h
  · split at h
    · cases h
    · split at h
      · cases h
      · unfold may
        simp only [mkFr, decide_eq_true_eq, List.length_take, List.length_drop]
        unfold cutOf at *
        split <;> omega

theorem cut_cases (l : List UInt8) (seq inc : Int) : (∃ e, e ≠ 0 ∧ cut l seq inc = ([], e)) ∨ ((cut l seq inc).2 = 0 ∧ cut l seq inc = ((List.range (cutOf l)).map (mkFr l seq inc (cutOf l)), 0) ∧ 0 < l.length ∧ l.length ≤ 90 ∧ 1 ≤ seq ∧ seq + cutOf l ≤ 1099511627777 ∧ 0 ≤ inc ∧ inc ≤ 1048576) := by
  unfold cut
  split
  · exact .inl ⟨2, by decide, rfl⟩
  · split
    · exact .inl ⟨3, by decide, rfl⟩
    · split
      · exact .inl ⟨2, by decide, rfl⟩
      · refine .inr ⟨rfl, rfl, ?_⟩
        unfold cutOf at *
        omega

theorem joined_cut (l : List UInt8) (seq inc : Int) (n : Nat) : joined ((List.range n).map (mkFr l seq inc (cutOf l))) = l.take (45 * n) := by
  induction n with
  | zero => simp [joined]
  | succ n ih =>
    rw [List.range_succ, List.map_append, joined, List.map_append, List.flatten_append]
    have : 45 * (n + 1) = 45 * n + 45 := by omega
    rw [this, List.take_add, ← ih]
    simp [joined, mkFr]

/-- What was cut is joined. -/
theorem join_cut {l : List UInt8} {seq inc : Int} (h : (cut l seq inc).2 = 0) : joinA (cut l seq inc).1 = .tup [.sl .any (ofBytes l), .int .i64 0] := by
  rcases cut_cases l seq inc with ⟨e, he, hc⟩ | ⟨h', hc, h1, h2, h3, h4, h5, h6⟩
  · rw [hc] at h; exact absurd h he
  · rw [hc]
    have hn : 0 < cutOf l ∧ cutOf l ≤ 2 ∧ l.length ≤ 45 * cutOf l := by unfold cutOf; omega
    have h0 : ((List.range (cutOf l)).map (mkFr l seq inc (cutOf l)))[0]? = some (mkFr l seq inc (cutOf l) 0) := by simp [hn.1]
    simp only [joinA, h0]
    rw [if_pos, joined_cut, List.take_of_length_le hn.2.2]
    refine ⟨by simp; omega, fun j f hj hf => ?_, ?_⟩
    · simp at hj
      simp [hj] at hf
      subst hf
      have hm := mkFr_may h hj
      simp only [partOk, hm, List.length_map, List.length_range]
      have : IntKind.i64.wrap (seq + j) = seq + j := IntWalk.i64_in _ (by omega)
      simp [mkFr, this]
    · rw [joined_cut, List.take_of_length_le hn.2.2]
      rfl

theorem wakes_spec (st : St) : ASpec Try.prog 7 [] st fun v st' => v = .bool true ∧ st' = st := by
  refine pure_of (R := fun v => v = _) O8s F7 rfl ?_
  have hn : cutOf (z8 85) = 2 := by rw [cutOf, z8_length]
  have hc : cut (z8 85) 7 1 = ([mkFr (z8 85) 7 1 2 0, mkFr (z8 85) 7 1 2 1], 0) := by
    rw [cut, hn, z8_length]
    simp [List.range_succ]
  have hj := join_cut (l := z8 85) (seq := 7) (inc := 1) (by rw [hc])
  rw [hc] at hj
  have h8 := O8_8 (z8 85) 7 1 (by simp)
  rw [hc] at h8
  have h10 := O8_10 [mkFr (z8 85) 7 1 2 0, mkFr (z8 85) 7 1 2 1] (by simp)
  have h11 := O8_10 [mkFr (z8 85) 7 1 2 1] (by simp)
  rw [hj] at h10
  rw [joinA_bad (g := mkFr (z8 85) 7 1 2 1) (i := 0) (f := mkFr (z8 85) 7 1 2 1) rfl rfl (by simp [partOk, mkFr])] at h11
  simp [mkFr, ofBytes_take] at h8 h10 h11
  simp [c7, h8, h10, h11, List.append_assoc]

noncomputable def O9 : Orc := O8.add 7 (tab (fun _ : Unit => []) (fun _ => .bool true) fun _ => True)
theorem O9s : OSound Try.prog O9 := O8s.tab fun _ _ st => wakes_spec st
theorem O9_7 : O9 7 [] = some (.bool true) := by
  rw [O9, Orc.add_same]
  exact tab_eq (fun _ _ _ => rfl) trivial (x := ())
theorem O9_8 (l : List UInt8) (seq inc : Int) (h : l.length ≤ 1048576) : O9 8 [.sl .any (ofBytes l), .int .i64 seq, .int .i64 inc] = some (.tup [.sl .any ((cut l seq inc).1.map frA), .int .i64 (cut l seq inc).2]) := by
  rw [O9, Orc.add_other _ _ _ _ _ (by decide)]
  exact O8_8 l seq inc h
theorem O9_10 (l : List Fr) (h : l.length ≤ 1048576) : O9 10 [.sl .any (l.map frA)] = some (joinA l) := by
  rw [O9, Orc.add_other _ _ _ _ _ (by decide)]
  exact O8_10 l h
theorem O9_11 (f : Fr) : O9 11 [.agg [.int .i64 f.seq, .int .i64 f.inc, .int .i64 f.part, .int .i64 f.of, u32 f.mark, .sl .any (ofBytes f.load)]] = some (.bool (may f)) := by
  rw [O9, Orc.add_other _ _ _ _ _ (by decide)]
  exact O8_11 f
end Go.Proofs.Ytghodhkcjjjjnaa

/- Records: the program's reader. -/
import Derived.Test.YtchaakjbedkndaaZI
set_option linter.all false
namespace Go.Proofs.Ytchaakjbedkndaa
open Go.Am

/-- The program's reader: what is left, and whether there was too little. -/
def gB (s : RS) : Blk := .cells false [.sl .any (ofBytes s.1), .bool s.2]
theorem gbyte_spec {s : RS} {g : Nat} {st : St} (hs : s.1.length ≤ 1000000) (hl : st.heap[g]? = some (gB s)) : ASpec Try.prog 70 [.ptr g 0] st fun v st' => v = .int .i64 (rd1 s).1 ∧ st' = ⟨st.heap.set g (gB (rd1 s).2), st.toks⟩ := by
  refine raw_of C4s F70 rfl ?_
  have f3 : ∀ v, (st.heap.set g v)[g]? = some v := fun v => List.getElem?_set_self (List.getElem?_eq_some_iff.1 hl).1
  obtain ⟨r, bad⟩ := s
  rw [gB] at hl
  cases r with
  | nil =>
    simp only [] at hl
    simp (disch := first | omega | (simp only [List.length_take, List.length_drop, List.length_append, List.length_cons, List.length_nil, List.length_map]; omega)) [IntWalk.i64_in, IntWalk.i64_quo, c70, hl, f3]
    repeat' first
      | (refine region_static rfl (by decide +kernel) ?_; try simp (disch := first | omega | (simp only [List.length_take, List.length_drop, List.length_append, List.length_cons, List.length_nil, List.length_map]; omega)) [IntWalk.i64_in, IntWalk.i64_quo, hl, f3])
      | (refine And.intro (by omega) ?_; try simp (disch := first | omega | (simp only [List.length_take, List.length_drop, List.length_append, List.length_cons, List.length_nil, List.length_map]; omega)) [IntWalk.i64_in, IntWalk.i64_quo, hl, f3])
      | (refine guardK_ndec (fun h => ?_) (fun h => ?_) <;> (try simp (disch := first | omega | (simp only [List.length_take, List.length_drop, List.length_append, List.length_cons, List.length_nil, List.length_map]; omega)) [h, IntWalk.i64_in, IntWalk.i64_quo, hl, f3]))
      | (refine guardK_dec (fun h => ?_) (fun h => ?_) <;> (try simp (disch := first | omega | (simp only [List.length_take, List.length_drop, List.length_append, List.length_cons, List.length_nil, List.length_map]; omega)) [h, IntWalk.i64_in, IntWalk.i64_quo, hl, f3]))
      | (refine guardK_nbeq (fun h => ?_) (fun h => ?_) <;> (try simp (disch := first | omega | (simp only [List.length_take, List.length_drop, List.length_append, List.length_cons, List.length_nil, List.length_map]; omega)) [h, IntWalk.i64_in, IntWalk.i64_quo, hl, f3]))
      | (refine guardK_beq (fun h => ?_) (fun h => ?_) <;> (try simp (disch := first | omega | (simp only [List.length_take, List.length_drop, List.length_append, List.length_cons, List.length_nil, List.length_map]; omega)) [h, IntWalk.i64_in, IntWalk.i64_quo, hl, f3]))
      | (refine guardK_bne (fun h => ?_) (fun h => ?_) <;> (try simp (disch := first | omega | (simp only [List.length_take, List.length_drop, List.length_append, List.length_cons, List.length_nil, List.length_map]; omega)) [h, IntWalk.i64_in, IntWalk.i64_quo, hl, f3]))
      | (refine guardK_not (fun h => ?_) (fun h => ?_) <;> (try simp (disch := first | omega | (simp only [List.length_take, List.length_drop, List.length_append, List.length_cons, List.length_nil, List.length_map]; omega)) [h, IntWalk.i64_in, IntWalk.i64_quo, hl, f3]))
      | (refine guardK_split (fun h => ?_) (fun h => ?_) <;> (try simp (disch := first | omega | (simp only [List.length_take, List.length_drop, List.length_append, List.length_cons, List.length_nil, List.length_map]; omega)) [h, IntWalk.i64_in, IntWalk.i64_quo, hl, f3]))
      | (refine condK_ndec (fun h => ?_) (fun h => ?_) <;> (try simp (disch := first | omega | (simp only [List.length_take, List.length_drop, List.length_append, List.length_cons, List.length_nil, List.length_map]; omega)) [h, IntWalk.i64_in, IntWalk.i64_quo, hl, f3]))
      | (refine condK_dec (fun h => ?_) (fun h => ?_) <;> (try simp (disch := first | omega | (simp only [List.length_take, List.length_drop, List.length_append, List.length_cons, List.length_nil, List.length_map]; omega)) [h, IntWalk.i64_in, IntWalk.i64_quo, hl, f3]))
      | (refine condK_nbeq (fun h => ?_) (fun h => ?_) <;> (try simp (disch := first | omega | (simp only [List.length_take, List.length_drop, List.length_append, List.length_cons, List.length_nil, List.length_map]; omega)) [h, IntWalk.i64_in, IntWalk.i64_quo, hl, f3]))
      | (refine condK_beq (fun h => ?_) (fun h => ?_) <;> (try simp (disch := first | omega | (simp only [List.length_take, List.length_drop, List.length_append, List.length_cons, List.length_nil, List.length_map]; omega)) [h, IntWalk.i64_in, IntWalk.i64_quo, hl, f3]))
      | (refine condK_bne (fun h => ?_) (fun h => ?_) <;> (try simp (disch := first | omega | (simp only [List.length_take, List.length_drop, List.length_append, List.length_cons, List.length_nil, List.length_map]; omega)) [h, IntWalk.i64_in, IntWalk.i64_quo, hl, f3]))
      | (refine condK_not (fun h => ?_) (fun h => ?_) <;> (try simp (disch := first | omega | (simp only [List.length_take, List.length_drop, List.length_append, List.length_cons, List.length_nil, List.length_map]; omega)) [h, IntWalk.i64_in, IntWalk.i64_quo, hl, f3]))
      | (refine condK_split (fun h => ?_) (fun h => ?_) <;> (try simp (disch := first | omega | (simp only [List.length_take, List.length_drop, List.length_append, List.length_cons, List.length_nil, List.length_map]; omega)) [h, IntWalk.i64_in, IntWalk.i64_quo, hl, f3]))
    refine .inl ⟨by simp, Nat.le_refl _, rfl, ?_⟩
    simp [gB, rd1]
  | cons x t =>
    simp only [] at hl
    simp only [List.length_cons] at hs
    have h2 : ¬ (t.length : Int) + 1 = 0 := by omega
    simp (disch := first | omega | (simp only [List.length_take, List.length_drop, List.length_append, List.length_cons, List.length_nil, List.length_map]; omega)) [IntWalk.i64_in, IntWalk.i64_quo, c70, hl, f3, h2]
    repeat' first
      | (refine region_static rfl (by decide +kernel) ?_; try simp (disch := first | omega | (simp only [List.length_take, List.length_drop, List.length_append, List.length_cons, List.length_nil, List.length_map]; omega)) [IntWalk.i64_in, IntWalk.i64_quo, hl, f3, h2])
      | (refine And.intro (by omega) ?_; try simp (disch := first | omega | (simp only [List.length_take, List.length_drop, List.length_append, List.length_cons, List.length_nil, List.length_map]; omega)) [IntWalk.i64_in, IntWalk.i64_quo, hl, f3, h2])
      | (refine guardK_ndec (fun h => ?_) (fun h => ?_) <;> (try simp (disch := first | omega | (simp only [List.length_take, List.length_drop, List.length_append, List.length_cons, List.length_nil, List.length_map]; omega)) [h, IntWalk.i64_in, IntWalk.i64_quo, hl, f3, h2]))
      | (refine guardK_dec (fun h => ?_) (fun h => ?_) <;> (try simp (disch := first | omega | (simp only [List.length_take, List.length_drop, List.length_append, List.length_cons, List.length_nil, List.length_map]; omega)) [h, IntWalk.i64_in, IntWalk.i64_quo, hl, f3, h2]))
      | (refine guardK_nbeq (fun h => ?_) (fun h => ?_) <;> (try simp (disch := first | omega | (simp only [List.length_take, List.length_drop, List.length_append, List.length_cons, List.length_nil, List.length_map]; omega)) [h, IntWalk.i64_in, IntWalk.i64_quo, hl, f3, h2]))
      | (refine guardK_beq (fun h => ?_) (fun h => ?_) <;> (try simp (disch := first | omega | (simp only [List.length_take, List.length_drop, List.length_append, List.length_cons, List.length_nil, List.length_map]; omega)) [h, IntWalk.i64_in, IntWalk.i64_quo, hl, f3, h2]))
      | (refine guardK_bne (fun h => ?_) (fun h => ?_) <;> (try simp (disch := first | omega | (simp only [List.length_take, List.length_drop, List.length_append, List.length_cons, List.length_nil, List.length_map]; omega)) [h, IntWalk.i64_in, IntWalk.i64_quo, hl, f3, h2]))
      | (refine guardK_not (fun h => ?_) (fun h => ?_) <;> (try simp (disch := first | omega | (simp only [List.length_take, List.length_drop, List.length_append, List.length_cons, List.length_nil, List.length_map]; omega)) [h, IntWalk.i64_in, IntWalk.i64_quo, hl, f3, h2]))
      | (refine guardK_split (fun h => ?_) (fun h => ?_) <;> (try simp (disch := first | omega | (simp only [List.length_take, List.length_drop, List.length_append, List.length_cons, List.length_nil, List.length_map]; omega)) [h, IntWalk.i64_in, IntWalk.i64_quo, hl, f3, h2]))
      | (refine condK_ndec (fun h => ?_) (fun h => ?_) <;> (try simp (disch := first | omega | (simp only [List.length_take, List.length_drop, List.length_append, List.length_cons, List.length_nil, List.length_map]; omega)) [h, IntWalk.i64_in, IntWalk.i64_quo, hl, f3, h2]))
      | (refine condK_dec (fun h => ?_) (fun h => ?_) <;> (try simp (disch := first | omega | (simp only [List.length_take, List.length_drop, List.length_append, List.length_cons, List.length_nil, List.length_map]; omega)) [h, IntWalk.i64_in, IntWalk.i64_quo, hl, f3, h2]))
      | (refine condK_nbeq (fun h => ?_) (fun h => ?_) <;> (try simp (disch := first | omega | (simp only [List.length_take, List.length_drop, List.length_append, List.length_cons, List.length_nil, List.length_map]; omega)) [h, IntWalk.i64_in, IntWalk.i64_quo, hl, f3, h2]))
      | (refine condK_beq (fun h => ?_) (fun h => ?_) <;> (try simp (disch := first | omega | (simp only [List.length_take, List.length_drop, List.length_append, List.length_cons, List.length_nil, List.length_map]; omega)) [h, IntWalk.i64_in, IntWalk.i64_quo, hl, f3, h2]))
      | (refine condK_bne (fun h => ?_) (fun h => ?_) <;> (try simp (disch := first | omega | (simp only [List.length_take, List.length_drop, List.length_append, List.length_cons, List.length_nil, List.length_map]; omega)) [h, IntWalk.i64_in, IntWalk.i64_quo, hl, f3, h2]))
      | (refine condK_not (fun h => ?_) (fun h => ?_) <;> (try simp (disch := first | omega | (simp only [List.length_take, List.length_drop, List.length_append, List.length_cons, List.length_nil, List.length_map]; omega)) [h, IntWalk.i64_in, IntWalk.i64_quo, hl, f3, h2]))
      | (refine condK_split (fun h => ?_) (fun h => ?_) <;> (try simp (disch := first | omega | (simp only [List.length_take, List.length_drop, List.length_append, List.length_cons, List.length_nil, List.length_map]; omega)) [h, IntWalk.i64_in, IntWalk.i64_quo, hl, f3, h2]))
    refine .inl ⟨by simp, Nat.le_refl _, rfl, ?_⟩
    simp [gB, rd1]
theorem rd1_len (s : RS) : (rd1 s).2.1.length ≤ s.1.length := by
  obtain ⟨l, bad⟩ := s
  cases l <;> simp [rd1]
theorem gflag_spec {s : RS} {g : Nat} {st : St} (hs : s.1.length ≤ 1000000) (hl : st.heap[g]? = some (gB s)) : ASpec Try.prog 75 [.ptr g 0] st fun v st' => v = .bool (rdF s).1 ∧ st' = ⟨st.heap.set g (gB (rdF s).2), st.toks⟩ := by
  refine raw_of C4s F75 rfl ?_
  obtain ⟨f1, f2, f3, f4, f5⟩ := at_facts hl
  simp (disch := first | omega | (simp only [List.length_take, List.length_drop, List.length_append, List.length_cons, List.length_nil, List.length_map]; omega)) [IntWalk.i64_in, IntWalk.i64_quo, c75]
  refine (gbyte_spec hs hl).mono ?_
  rintro _ _ ⟨rfl, rfl⟩
  clear hl
  obtain ⟨⟨n, rem, bad⟩, hn⟩ : ∃ x, rd1 s = x := ⟨_, rfl⟩
  have hG : ∀ s, gB s = .cells false [.sl .any (ofBytes s.1), .bool s.2] := fun _ => rfl
  simp (disch := first | omega | (simp only [List.length_take, List.length_drop, List.length_append, List.length_cons, List.length_nil, List.length_map]; omega)) [IntWalk.i64_in, IntWalk.i64_quo, hn, hG, f3, rdF]
  repeat' first
    | (refine region_static rfl (by decide +kernel) ?_; try simp (disch := first | omega | (simp only [List.length_take, List.length_drop, List.length_append, List.length_cons, List.length_nil, List.length_map]; omega)) [IntWalk.i64_in, IntWalk.i64_quo, hn, hG, f3, rdF])
    | (refine And.intro (by omega) ?_; try simp (disch := first | omega | (simp only [List.length_take, List.length_drop, List.length_append, List.length_cons, List.length_nil, List.length_map]; omega)) [IntWalk.i64_in, IntWalk.i64_quo, hn, hG, f3, rdF])
    | (refine guardK_ndec (fun h => ?_) (fun h => ?_) <;> (try simp (disch := first | omega | (simp only [List.length_take, List.length_drop, List.length_append, List.length_cons, List.length_nil, List.length_map]; omega)) [h, IntWalk.i64_in, IntWalk.i64_quo, hn, hG, f3, rdF]))
    | (refine guardK_dec (fun h => ?_) (fun h => ?_) <;> (try simp (disch := first | omega | (simp only [List.length_take, List.length_drop, List.length_append, List.length_cons, List.length_nil, List.length_map]; omega)) [h, IntWalk.i64_in, IntWalk.i64_quo, hn, hG, f3, rdF]))
    | (refine guardK_nbeq (fun h => ?_) (fun h => ?_) <;> (try simp (disch := first | omega | (simp only [List.length_take, List.length_drop, List.length_append, List.length_cons, List.length_nil, List.length_map]; omega)) [h, IntWalk.i64_in, IntWalk.i64_quo, hn, hG, f3, rdF]))
    | (refine guardK_beq (fun h => ?_) (fun h => ?_) <;> (try simp (disch := first | omega | (simp only [List.length_take, List.length_drop, List.length_append, List.length_cons, List.length_nil, List.length_map]; omega)) [h, IntWalk.i64_in, IntWalk.i64_quo, hn, hG, f3, rdF]))
    | (refine guardK_bne (fun h => ?_) (fun h => ?_) <;> (try simp (disch := first | omega | (simp only [List.length_take, List.length_drop, List.length_append, List.length_cons, List.length_nil, List.length_map]; omega)) [h, IntWalk.i64_in, IntWalk.i64_quo, hn, hG, f3, rdF]))
    | (refine guardK_not (fun h => ?_) (fun h => ?_) <;> (try simp (disch := first | omega | (simp only [List.length_take, List.length_drop, List.length_append, List.length_cons, List.length_nil, List.length_map]; omega)) [h, IntWalk.i64_in, IntWalk.i64_quo, hn, hG, f3, rdF]))
    | (refine guardK_split (fun h => ?_) (fun h => ?_) <;> (try simp (disch := first | omega | (simp only [List.length_take, List.length_drop, List.length_append, List.length_cons, List.length_nil, List.length_map]; omega)) [h, IntWalk.i64_in, IntWalk.i64_quo, hn, hG, f3, rdF]))
    | (refine condK_ndec (fun h => ?_) (fun h => ?_) <;> (try simp (disch := first | omega | (simp only [List.length_take, List.length_drop, List.length_append, List.length_cons, List.length_nil, List.length_map]; omega)) [h, IntWalk.i64_in, IntWalk.i64_quo, hn, hG, f3, rdF]))
    | (refine condK_dec (fun h => ?_) (fun h => ?_) <;> (try simp (disch := first | omega | (simp only [List.length_take, List.length_drop, List.length_append, List.length_cons, List.length_nil, List.length_map]; omega)) [h, IntWalk.i64_in, IntWalk.i64_quo, hn, hG, f3, rdF]))
    | (refine condK_nbeq (fun h => ?_) (fun h => ?_) <;> (try simp (disch := first | omega | (simp only [List.length_take, List.length_drop, List.length_append, List.length_cons, List.length_nil, List.length_map]; omega)) [h, IntWalk.i64_in, IntWalk.i64_quo, hn, hG, f3, rdF]))
    | (refine condK_beq (fun h => ?_) (fun h => ?_) <;> (try simp (disch := first | omega | (simp only [List.length_take, List.length_drop, List.length_append, List.length_cons, List.length_nil, List.length_map]; omega)) [h, IntWalk.i64_in, IntWalk.i64_quo, hn, hG, f3, rdF]))
    | (refine condK_bne (fun h => ?_) (fun h => ?_) <;> (try simp (disch := first | omega | (simp only [List.length_take, List.length_drop, List.length_append, List.length_cons, List.length_nil, List.length_map]; omega)) [h, IntWalk.i64_in, IntWalk.i64_quo, hn, hG, f3, rdF]))
    | (refine condK_not (fun h => ?_) (fun h => ?_) <;> (try simp (disch := first | omega | (simp only [List.length_take, List.length_drop, List.length_append, List.length_cons, List.length_nil, List.length_map]; omega)) [h, IntWalk.i64_in, IntWalk.i64_quo, hn, hG, f3, rdF]))
    | (refine condK_split (fun h => ?_) (fun h => ?_) <;> (try simp (disch := first | omega | (simp only [List.length_take, List.length_drop, List.length_append, List.length_cons, List.length_nil, List.length_map]; omega)) [h, IntWalk.i64_in, IntWalk.i64_quo, hn, hG, f3, rdF]))
  all_goals exact .inl ⟨by simp, Nat.le_refl _, rfl, rfl⟩
theorem or_add (a b : Int) (k m : Nat) (ha : 0 ≤ a ∧ a < 2 ^ k) (hb : b = 2 ^ k * m) (h : a + b < 9223372036854775808) : intBin .or .i64 a b = some (.int .i64 (a + b)) := by
  obtain ⟨n, rfl⟩ := Int.eq_ofNat_of_zero_le ha.1
  have hn : n < 2 ^ k := by have := ha.2; exact_mod_cast this
  have hbn : b = ((2 ^ k * m : Nat) : Int) := by rw [hb]; simp
  subst hbn
  have hlt : n + 2 ^ k * m < 9223372036854775808 := by
    generalize 2 ^ k * m = q at h ⊢
    omega
  show some (AV.int .i64 (IntKind.i64.wrap (((BitVec.ofInt 64 (n : Int) ||| BitVec.ofInt 64 ((2 ^ k * m : Nat) : Int)).toNat : Nat) : Int))) = _
  rw [BitVec.ofInt_natCast, BitVec.ofInt_natCast, BitVec.toNat_or, BitVec.toNat_ofNat, BitVec.toNat_ofNat, Nat.mod_eq_of_lt (by omega), Nat.mod_eq_of_lt (by omega), Nat.or_comm, ← Nat.two_pow_add_eq_or_of_lt hn, IntWalk.i64_in _ (by omega)]
  rw [Nat.add_comm, Int.natCast_add]
theorem gthree_spec {s : RS} {g : Nat} {st : St} (hs : s.1.length ≤ 1000000) (hl : st.heap[g]? = some (gB s)) : ASpec Try.prog 54 [.ptr g 0] st fun v st' => v = .int .i64 (rd3 s).1 ∧ st' = ⟨st.heap.set g (gB (rd3 s).2), st.toks⟩ := by
  refine raw_of C4s F54 rfl ?_
  obtain ⟨f1, f2, f3, f4, f5⟩ := at_facts hl
  have b1 := rd1_bound s
  have b2 := rd1_bound (rd1 s).2
  have b3 := rd1_bound (rd1 (rd1 s).2).2
  have l1 := rd1_len s
  have l2 := rd1_len (rd1 s).2
  simp (disch := first | omega | (simp only [List.length_take, List.length_drop, List.length_append, List.length_cons, List.length_nil, List.length_map]; omega)) [IntWalk.i64_in, IntWalk.i64_quo, c54]
  refine awC_loopU 4 ?_
  simp (disch := first | omega | (simp only [List.length_take, List.length_drop, List.length_append, List.length_cons, List.length_nil, List.length_map]; omega)) [IntWalk.i64_in, IntWalk.i64_quo]
  refine (gbyte_spec hs hl).mono ?_
  rintro _ _ ⟨rfl, rfl⟩
  have s0 := shl_nn (rd1 s).1 0 0 b1.1 rfl (by decide) (by omega)
  have s1 := shl_nn (rd1 (rd1 s).2).1 8 8 b2.1 rfl (by decide) (by omega)
  have s2 := shl_nn (rd1 (rd1 (rd1 s).2).2).1 16 16 b3.1 rfl (by decide) (by omega)
  simp only [Int.pow_zero, Int.mul_one] at s0
  have o0 : intBin .or .i64 0 (rd1 s).1 = some (.int .i64 (rd1 s).1) := by
    obtain ⟨m, hm⟩ := Int.eq_ofNat_of_zero_le b1.1
    have := or_add 0 (rd1 s).1 0 m ⟨by decide, by decide⟩ (by omega) (by omega)
    simpa using this
  clear hl
  simp (disch := first | omega | (simp only [List.length_take, List.length_drop, List.length_append, List.length_cons, List.length_nil, List.length_map]; omega)) [IntWalk.i64_in, IntWalk.i64_quo, s0, o0]
  refine (gbyte_spec (s := (rd1 s).2) (by omega) (f3 _)).mono ?_
  rintro _ _ ⟨rfl, rfl⟩
  have o1 : intBin .or .i64 (rd1 s).1 ((rd1 (rd1 s).2).1 * 256) = some (.int .i64 ((rd1 s).1 + (rd1 (rd1 s).2).1 * 256)) := by
    obtain ⟨m, hm⟩ := Int.eq_ofNat_of_zero_le b2.1
    exact or_add _ _ 8 m ⟨b1.1, by show _ < (256 : Int); omega⟩ (by show _ = (256 : Int) * _; omega) (by omega)
  have o2 : intBin .or .i64 ((rd1 s).1 + (rd1 (rd1 s).2).1 * 256) ((rd1 (rd1 (rd1 s).2).2).1 * 65536) = some (.int .i64 ((rd1 s).1 + (rd1 (rd1 s).2).1 * 256 + (rd1 (rd1 (rd1 s).2).2).1 * 65536)) := by
    obtain ⟨m, hm⟩ := Int.eq_ofNat_of_zero_le b3.1
    exact or_add _ _ 16 m ⟨by omega, by show _ < (65536 : Int); omega⟩ (by show _ = (65536 : Int) * _; omega) (by omega)
  simp (disch := first | omega | (simp only [List.length_take, List.length_drop, List.length_append, List.length_cons, List.length_nil, List.length_map]; omega)) [IntWalk.i64_in, IntWalk.i64_quo, s1, o1]
  refine (gbyte_spec (s := (rd1 (rd1 s).2).2) (by omega) (f3 _)).mono ?_
  rintro _ _ ⟨rfl, rfl⟩
  simp (disch := first | omega | (simp only [List.length_take, List.length_drop, List.length_append, List.length_cons, List.length_nil, List.length_map]; omega)) [IntWalk.i64_in, IntWalk.i64_quo, s2, o2]
  refine .inl ⟨by simp, Nat.le_refl _, ?_, by simp [rd3]⟩
  show AV.int .i64 _ = AV.int .i64 _
  congr 1
  simp only [rd3]
  omega
end Go.Proofs.Ytchaakjbedkndaa

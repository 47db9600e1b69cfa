/- A turned bit is told by the sum. -/
import Derived.Test.YtjceilhmgbdgiaaZS
set_option linter.all false
namespace Go.Proofs.Ytjceilhmgbdgiaa
open Go.Am

def num : List UInt8 → Nat
  | [] => 0
  | b :: l => b.toNat + 256 * num l
/-- A step of the register, on numbers of any length. -/
def gs (n : Nat) : Nat := (n / 2) ^^^ (if n % 2 = 1 then 3988292384 else 0)
def gsN : Nat → Nat → Nat
  | 0, n => n
  | k + 1, n => gsN k (gs n)

theorem gs_0 : gs 0 = 0 := by decide
theorem gsN_0 (k : Nat) : gsN k 0 = 0 := by
  induction k with
  | zero => rfl
  | succ k ih => simp [gsN, gs_0, ih]
theorem gsN_add (a b n : Nat) : gsN (a + b) n = gsN b (gsN a n) := by
  induction a generalizing n with
  | zero => simp [gsN]
  | succ a ih => rw [show a + 1 + b = (a + b) + 1 by omega, gsN, gsN, ih]
theorem gs_even (n : Nat) : gs (2 * n) = n := by
  simp [gs]
theorem gsN_shift (k n : Nat) : gsN k (2 ^ k * n) = n := by
  induction k with
  | zero => simp [gsN]
  | succ k ih => rw [gsN, Nat.pow_succ, Nat.mul_comm (2 ^ k), Nat.mul_assoc, gs_even, ih]

theorem xor_half (a b : Nat) : (a ^^^ b) / 2 = a / 2 ^^^ b / 2 := by
  apply Nat.eq_of_testBit_eq
  intro i
  simp only [Nat.testBit_xor, Nat.testBit_div_two]
theorem xor_odd (a b : Nat) : (a ^^^ b) % 2 = (a % 2 + b % 2) % 2 := by
  have h : ∀ n : Nat, n % 2 = (n.testBit 0).toNat := fun n => by
    rw [Nat.testBit_zero]
    rcases Nat.mod_two_eq_zero_or_one n with h | h <;> simp [h]
  rw [h (a ^^^ b), Nat.testBit_xor, h a, h b]
  cases a.testBit 0 <;> cases b.testBit 0 <;> rfl
theorem gs_xor (a b : Nat) : gs (a ^^^ b) = gs a ^^^ gs b := by
  simp only [gs, xor_half, xor_odd]
  have hx : ∀ x y z : Nat, x ^^^ y ^^^ (z ^^^ z) = x ^^^ y := fun x y z => by rw [Nat.xor_self, Nat.xor_zero]
  rcases Nat.mod_two_eq_zero_or_one a with h | h <;> rcases Nat.mod_two_eq_zero_or_one b with k | k <;> simp [h, k]
  · ac_rfl
  · ac_rfl
  · have : a / 2 ^^^ 3988292384 ^^^ (b / 2 ^^^ 3988292384) = a / 2 ^^^ b / 2 ^^^ (3988292384 ^^^ 3988292384) := by ac_rfl
    rw [this, Nat.xor_self, Nat.xor_zero]
theorem gsN_xor (k a b : Nat) : gsN k (a ^^^ b) = gsN k a ^^^ gsN k b := by
  induction k generalizing a b with
  | zero => rfl
  | succ k ih => rw [gsN, gs_xor, ih]; rfl

theorem gs_lt {n : Nat} (h : n < 2 ^ 32) : gs n < 2 ^ 32 := by
  unfold gs
  apply Nat.xor_lt_two_pow
  · omega
  · split <;> decide
theorem gs_ne {n : Nat} (h : n < 2 ^ 32) (h0 : n ≠ 0) : gs n ≠ 0 := by
  intro hg
  unfold gs at hg
  have hx : ∀ a b : Nat, a ^^^ b = 0 → a = b := fun a b hab => by
    have : (a ^^^ b) ^^^ b = b := by rw [hab, Nat.zero_xor]
    rwa [Nat.xor_assoc, Nat.xor_self, Nat.xor_zero] at this
  have := hx _ _ hg
  split at this
  · omega
  · omega
theorem gsN_lt {n : Nat} (h : n < 2 ^ 32) (k : Nat) : gsN k n < 2 ^ 32 := by
  induction k generalizing n with
  | zero => exact h
  | succ k ih => exact ih (gs_lt h)
theorem gsN_ne {n : Nat} (h : n < 2 ^ 32) (h0 : n ≠ 0) (k : Nat) : gsN k n ≠ 0 := by
  induction k generalizing n with
  | zero => exact h0
  | succ k ih => exact ih (gs_lt h) (gs_ne h h0)

theorem step_toNat (r : BitVec 32) : (step r).toNat = gs r.toNat := by
  rw [step_eq, gs, BitVec.toNat_xor, BitVec.toNat_ushiftRight, Nat.shiftRight_eq_div_pow, Nat.pow_one]
  congr 1
  have : r.getLsbD 0 = decide (r.toNat % 2 = 1) := by
    rw [BitVec.getLsbD, Nat.testBit_zero]
  rw [this]
  by_cases h : r.toNat % 2 = 1 <;> simp [h]
theorem steps_succ' (n : Nat) (r : BitVec 32) : steps (n + 1) r = steps n (step r) := by
  induction n with
  | zero => rfl
  | succ n ih => rw [steps, ih]; rfl
theorem steps_toNat (n : Nat) (r : BitVec 32) : (steps n r).toNat = gsN n r.toNat := by
  induction n generalizing r with
  | zero => rfl
  | succ n ih => rw [steps_succ', ih, step_toNat]; rfl
theorem thr1_toNat (r : BitVec 32) (b : UInt8) : (thr1 r b).toNat = gsN 8 (r.toNat ^^^ b.toNat) := by
  rw [← rem1_eq, rem1, steps_toNat, BitVec.toNat_xor]
  congr 2

theorem mul_pow_xor (k a b : Nat) : 2 ^ k * (a ^^^ b) = 2 ^ k * a ^^^ 2 ^ k * b := by
  apply Nat.eq_of_testBit_eq
  intro i
  simp only [Nat.testBit_xor, Nat.testBit_two_pow_mul]
  by_cases h : k ≤ i <;> simp [h]
theorem num_cons_xor (b : UInt8) (l : List UInt8) : num (b :: l) = b.toNat ^^^ 2 ^ 8 * num l := by
  have hb := b.toNat_lt
  rw [num]
  have h := Nat.two_pow_add_eq_or_of_lt (b := b.toNat) (i := 8) (by omega) (num l)
  apply Nat.eq_of_testBit_eq
  intro i
  rw [show b.toNat + 256 * num l = 2 ^ 8 * num l + b.toNat by omega, h, Nat.testBit_or, Nat.testBit_xor, Nat.testBit_two_pow_mul]
  by_cases hi : 8 ≤ i
  · have : b.toNat.testBit i = false := Nat.testBit_lt_two_pow (Nat.lt_of_lt_of_le hb (Nat.pow_le_pow_right (by decide) hi))
    simp [this]
  · simp [hi]
/-- A bit is turned. -/
theorem num_turn {q : Nat} (hq : q < 8) : ∀ {l : List UInt8} {p : Nat} (hp : p < l.length), num (l.set p (l[p] ^^^ UInt8.ofNat (2 ^ q))) = num l ^^^ 2 ^ (8 * p + q)
  | b :: l, 0, _ => by
    have h2 : (UInt8.ofNat (2 ^ q)).toNat = 2 ^ q := by
      rw [UInt8.toNat_ofNat']
      exact Nat.mod_eq_of_lt (by have := Nat.pow_lt_pow_right (a := 2) (by decide) hq; omega)
    simp only [List.set_cons_zero, List.getElem_cons_zero, num_cons_xor, UInt8.toNat_xor, h2, Nat.mul_zero, Nat.zero_add]
    ac_rfl
  | b :: l, p + 1, hp => by
    have ih := num_turn hq (l := l) (p := p) (by simpa using hp)
    simp only [List.set_cons_succ, List.getElem_cons_succ, num_cons_xor, ih, mul_pow_xor, ← Nat.pow_add]
    rw [show 8 + (8 * p + q) = 8 * (p + 1) + q by omega]
    ac_rfl
theorem mod_more (t j : Nat) : t % 2 ^ (j + 1) = t % 2 ^ j ^^^ (if t.testBit j then 2 ^ j else 0) := by
  apply Nat.eq_of_testBit_eq
  intro i
  simp only [Nat.testBit_xor, Nat.testBit_mod_two_pow]
  by_cases h : i = j
  · subst h
    cases ht : t.testBit i <;> simp [Nat.testBit_two_pow_self]
  · have h2 : (2 ^ j).testBit i = false := by rw [Nat.testBit_two_pow]; simp; omega
    have : (i < j + 1) = (i < j) := by
      apply propext
      omega
    simp only [this]
    split <;> simp [h2]
theorem bit_of (t : BitVec 32) (j : Nat) : (t >>> j &&& 1#32 = 1#32) ↔ t.toNat.testBit j = true := by
  rw [and_one, BitVec.getLsbD_ushiftRight, Nat.add_zero]
  show (if t.toNat.testBit j = true then _ else _) = _ ↔ _
  cases t.toNat.testBit j <;> simp

/-- Of rows that are read as numbers: the register behind all bits. -/
theorem thr_toNat : ∀ (l : List UInt8) (r : BitVec 32), (thr r l).toNat = gsN (8 * l.length) (r.toNat ^^^ num l)
  | [], r => by simp [thr, num, gsN]
  | b :: l, r => by
    rw [show thr r (b :: l) = thr (thr1 r b) l from rfl, thr_toNat l, thr1_toNat, List.length_cons, show 8 * (l.length + 1) = 8 + 8 * l.length by omega, gsN_add]
    congr 1
    have hb := b.toNat_lt
    have hn := num_cons_xor b l
    rw [hn, ← Nat.xor_assoc, gsN_xor 8 (r.toNat ^^^ b.toNat), gsN_shift]

theorem num_crcB (r : BitVec 32) : num (crcB r) = r.toNat := by
  have h := r.isLt
  simp only [crcB, num, UInt8.toNat_ofBitVec, BitVec.toNat_setWidth, BitVec.toNat_ushiftRight, Nat.shiftRight_eq_div_pow]
  omega

/-- A sealed row. -/
def okB (b : List UInt8) : Prop := 4 ≤ b.length ∧ crcB (crc (b.take (b.length - 4))) = b.drop (b.length - 4)
/-- What is behind a sealed row's sum is always the same. -/
theorem okB_res {b : List UInt8} (h : okB b) : (thr (4294967295#32) b).toNat = gsN 32 4294967295 := by
  obtain ⟨h1, h2⟩ := h
  have hb : b = b.take (b.length - 4) ++ crcB (crc (b.take (b.length - 4))) := by rw [h2, List.take_append_drop]
  rw [hb]
  generalize b.take (b.length - 4) = m
  rw [show thr (4294967295#32) (m ++ crcB (crc m)) = thr (thr (4294967295#32) m) (crcB (crc m)) from List.foldl_append ..]
  rw [thr_toNat, num_crcB]
  have hc : crc m = ~~~ thr (4294967295#32) m := rfl
  rw [hc]
  have hl : ∀ r : BitVec 32, (crcB r).length = 4 := fun r => rfl
  rw [hl]
  congr 1
  generalize thr (4294967295#32) m = r
  rw [← BitVec.toNat_xor]
  have : r ^^^ ~~~ r = 4294967295#32 := by
    apply BitVec.eq_of_getLsbD_eq
    intro i hi
    have h1 : (4294967295#32).getLsbD i = true := (by decide : ∀ i, i < 32 → (4294967295#32).getLsbD i = true) i hi
    rw [BitVec.getLsbD_xor, BitVec.getLsbD_not, h1]
    simp [hi]
  rw [this]
  rfl

theorem okB_turn {s t : List UInt8} {k d : Nat} (hs : okB s) (ht : t.length = s.length) (hn : num t = num s ^^^ 2 ^ k * d) (hd : d < 2 ^ 32) (h0 : d ≠ 0) (hk : k ≤ 8 * s.length) : ¬ okB t := by
  intro hb
  have h1 := okB_res hs
  have h2 := okB_res hb
  rw [thr_toNat] at h1 h2
  rw [ht, hn, ← Nat.xor_assoc, gsN_xor, h1] at h2
  have h3 : gsN (8 * s.length) (2 ^ k * d) = 0 := by
    have : gsN 32 4294967295 ^^^ (gsN 32 4294967295 ^^^ gsN (8 * s.length) (2 ^ k * d)) = 0 := by rw [h2, Nat.xor_self]
    rwa [← Nat.xor_assoc, Nat.xor_self, Nat.zero_xor] at this
  rw [show 8 * s.length = k + (8 * s.length - k) by omega, gsN_add, gsN_shift] at h3
  exact gsN_ne hd h0 _ h3
theorem okB_bit {s : List UInt8} {p q : Nat} (hs : okB s) (hp : p < s.length) (hq : q < 8) : ¬ okB (s.set p (s[p] ^^^ UInt8.ofNat (2 ^ q))) :=
  okB_turn (k := 8 * p + q) (d := 1) hs (by simp) (by rw [num_turn hq hp, Nat.mul_one]) (by decide) (by decide) (by omega)
end Go.Proofs.Ytjceilhmgbdgiaa

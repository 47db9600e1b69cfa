/- The sum by half bytes is the sum by bits. -/
import Derived.Test.YtghodhkcjjjjnaaZSums
set_option linter.all false
namespace Go.Proofs.Ytghodhkcjjjjnaa

theorem and_one (a : BitVec 32) : a &&& 1#32 = if a.getLsbD 0 then 1#32 else 0#32 := by
  rw [BitVec.and_one_eq_setWidth_ofBool_getLsbD]
  cases a.getLsbD 0 <;> rfl

theorem step_eq (r : BitVec 32) : step r = r >>> 1 ^^^ (if r.getLsbD 0 then 3988292384#32 else 0#32) := by
  rw [step, and_one]
  cases r.getLsbD 0 <;> rfl

theorem step_if (r : BitVec 32) : step r = if r &&& 1#32 = 1#32 then r >>> 1 ^^^ 3988292384#32 else r >>> 1 := by
  rw [step_eq, and_one]
  cases r.getLsbD 0 <;> simp

theorem step_xor (a b : BitVec 32) : step (a ^^^ b) = step a ^^^ step b := by
  simp only [step_eq, BitVec.getLsbD_xor, BitVec.ushiftRight_xor_distrib]
  apply BitVec.eq_of_getLsbD_eq
  intro i _
  cases a.getLsbD 0 <;> cases b.getLsbD 0 <;> simp only [Bool.false_eq_true, if_true, if_false, Bool.xor_false, Bool.xor_true, Bool.not_false, Bool.not_true, BitVec.getLsbD_xor, BitVec.getLsbD_zero] <;>
    cases (a >>> 1).getLsbD i <;> cases (b >>> 1).getLsbD i <;> cases (3988292384#32).getLsbD i <;> rfl

theorem half_xor (a b : BitVec 32) : half (a ^^^ b) = half a ^^^ half b := by simp only [half, step_xor]

theorem step_even {a : BitVec 32} (h : a.getLsbD 0 = false) : step a = a >>> 1 := by
  rw [step_eq, h]
  simp

theorem half_high (x : BitVec 32) : half (x >>> 4 <<< 4) = x >>> 4 := by
  have e1 : step (x >>> 4 <<< 4) = x >>> 4 <<< 4 >>> 1 := step_even (by simp [BitVec.getLsbD_shiftLeft])
  have e2 : step (x >>> 4 <<< 4 >>> 1) = x >>> 4 <<< 4 >>> 1 >>> 1 := step_even (by simp [BitVec.getLsbD_shiftLeft])
  have e3 : step (x >>> 4 <<< 4 >>> 1 >>> 1) = x >>> 4 <<< 4 >>> 1 >>> 1 >>> 1 := step_even (by simp [BitVec.getLsbD_shiftLeft])
  have e4 : step (x >>> 4 <<< 4 >>> 1 >>> 1 >>> 1) = x >>> 4 <<< 4 >>> 1 >>> 1 >>> 1 >>> 1 := step_even (by simp [BitVec.getLsbD_shiftLeft])
  rw [half, e1, e2, e3, e4]
  apply BitVec.eq_of_getLsbD_eq
  intro i hi
  simp only [BitVec.getLsbD_ushiftRight, BitVec.getLsbD_shiftLeft]
  rw [show 1 + (1 + (1 + (1 + i))) = 4 + i by omega]
  by_cases h : 4 + i < 32
  · simp [h, show 4 + (4 + i - 4) = 4 + i by omega]
  · rw [BitVec.getLsbD_of_ge _ (4 + i) (by omega)]
    simp [h]

theorem parts (x : BitVec 32) : x = (x >>> 4 <<< 4) ^^^ (x &&& 15#32) := by
  have h15 : ∀ i, i < 32 → (15#32).getLsbD i = decide (i < 4) := by decide
  apply BitVec.eq_of_getLsbD_eq
  intro i hi
  simp only [BitVec.getLsbD_xor, BitVec.getLsbD_and, h15 i hi, BitVec.getLsbD_shiftLeft, BitVec.getLsbD_ushiftRight]
  by_cases h4 : i < 4
  · simp [h4]
  · simp [h4, hi, show 4 + (i - 4) = i by omega]

theorem nib_eq (x : BitVec 32) : nib x = half x := by
  rw [nib]
  conv => rhs; rw [parts x, half_xor, half_high]

/-- A remainder with a byte more, bit by bit. -/
def rem1 (r : BitVec 32) (b : UInt8) : BitVec 32 := steps 8 (r ^^^ b.toBitVec.setWidth 32)
theorem rem1_eq (r : BitVec 32) (b : UInt8) : rem1 r b = thr1 r b := by
  rw [thr1, nib_eq, nib_eq]
  rfl
end Go.Proofs.Ytghodhkcjjjjnaa

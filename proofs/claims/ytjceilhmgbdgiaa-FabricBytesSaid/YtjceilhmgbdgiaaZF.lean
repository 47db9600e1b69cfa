/- Messages: the program's reader. -/
import Derived.Test.YtjceilhmgbdgiaaZE
set_option linter.all false
namespace Go.Proofs.Ytjceilhmgbdgiaa
open Go.Am

abbrev RS := List UInt8 × Bool
def gB (s : RS) : Blk := .cells false [.sl .any (ofBytes s.1), .bool s.2]
theorem first_ok {l : List UInt8} {n : Nat} (hn : n ≤ l.length) (hl : l.length ≤ 1000000) (st : St) : ASpec Try.prog 214 [.sl .any (ofBytes l), .int .i64 n] st fun v st' => v = .tup [.sl .any (ofBytes (l.take n)), .sl .any (ofBytes (l.drop n)), .bool true] ∧ st' = st := by
  refine pure_of (R := fun v => v = _) C3s F214 rfl ?_
  have h1 : ¬ (l.length : Int) < n := by omega
  simp (disch := first | omega | (simp only [LL]; omega)) [WW, c214, h1]
  refine region_static rfl (by decide +kernel) ?_
  simp (disch := first | omega | (simp only [LL]; omega)) [WW, hn]
  rw [List.take_of_length_le (by simp)]
theorem take_ok {a t : List UInt8} {b : Bool} {g : Nat} {st : St} (hs : (a ++ t).length ≤ 1000000) (hg : st.heap[g]? = some (gB (a ++ t, b))) : ASpec Try.prog 200 [.ptr g 0, .int .i64 (a.length : Nat)] st fun v st' => v = .sl .any (ofBytes a) ∧ st' = ⟨st.heap.set g (gB (t, b)), st.toks⟩ := by
  refine raw_of C3s F200 rfl ?_
  obtain ⟨f1, f2, f3, f4, f5⟩ := at_facts hg
  have hG : ∀ s, gB s = .cells false [.sl .any (ofBytes s.1), .bool s.2] := fun _ => rfl
  rw [hG] at hg
  simp (disch := first | omega | (simp only [LL]; omega)) [WW, c200, hg]
  refine (first_ok (l := a ++ t) (n := a.length) (by simp) hs _).mono ?_
  rintro _ _ ⟨rfl, rfl⟩
  simp (disch := first | omega | (simp only [LL]; omega)) [WW, hg, f3]
  cases b
  · simp (disch := first | omega | (simp only [LL]; omega)) [WW, hg, f3]
    exact .inl ⟨by simp, Nat.le_refl _, rfl, rfl⟩
  · simp (disch := first | omega | (simp only [LL]; omega)) [WW, hg, f3]
    exact .inl ⟨by simp, Nat.le_refl _, rfl, rfl⟩
theorem shl_i64 (x y : Nat) (hy : y ≤ 64) (h : x * 2 ^ y < 2 ^ 63) : shiftBin .shl .i64 x y = some (.int .i64 (x * 2 ^ y : Nat)) := by
  rw [shiftBin, if_neg (by omega)]
  show some (AV.int .i64 (IntKind.i64.wrap ((x : Int) * 2 ^ (min (y : Int).toNat 64)))) = _
  rw [show min (y : Int).toNat 64 = y by omega]
  have : (x : Int) * 2 ^ y = ((x * 2 ^ y : Nat) : Int) := by simp
  rw [this, IntWalk.i64_in _ (by omega)]
theorem shl_nn (x y : Int) (z : Nat) (h0 : 0 ≤ x) (hy : y = z) (hz : z ≤ 60) (h : x * 2 ^ z < 9223372036854775808) : shiftBin .shl .i64 x y = some (.int .i64 (x * 2 ^ z)) := by
  obtain ⟨n, rfl⟩ := Int.eq_ofNat_of_zero_le h0
  subst hy
  have := shl_i64 n z (by omega) (by
    have h2 : ((n * 2 ^ z : Nat) : Int) < 9223372036854775808 := by simpa using h
    omega)
  rw [this]
  simp
theorem or_add (a b : Int) (k m : Nat) (ha : 0 ≤ a ∧ a < 2 ^ k) (hb : b = 2 ^ k * m) (h : a + b < 9223372036854775808) : intBin .or .i64 a b = some (.int .i64 (a + b)) := by
  obtain ⟨n, rfl⟩ := Int.eq_ofNat_of_zero_le ha.1
  have hn : n < 2 ^ k := by have := ha.2; exact_mod_cast this
  have hbn : b = ((2 ^ k * m : Nat) : Int) := by rw [hb]; simp
  subst hbn
  have hlt : n + 2 ^ k * m < 9223372036854775808 := by
    generalize 2 ^ k * m = q at h ⊢
    omega
  show some (AV.int .i64 (IntKind.i64.wrap (((BitVec.ofInt 64 (n : Int) ||| BitVec.ofInt 64 ((2 ^ k * m : Nat) : Int)).toNat : Nat) : Int))) = _
  rw [BitVec.ofInt_natCast, BitVec.ofInt_natCast, BitVec.toNat_or, BitVec.toNat_ofNat, BitVec.toNat_ofNat, Nat.mod_eq_of_lt (by omega), Nat.mod_eq_of_lt (by omega), Nat.or_comm, ← Nat.two_pow_add_eq_or_of_lt hn, IntWalk.i64_in _ (by omega)]
  rw [Nat.add_comm, Int.natCast_add]
def leV (a : List UInt8) : Int :=
  match a with
  | [x] => x.toNat
  | [x, y] => x.toNat + y.toNat * 256
  | [x, y, z] => x.toNat + y.toNat * 256 + z.toNat * 65536
  | _ => 0
theorem num_ok {a t : List UInt8} {b : Bool} {g : Nat} {st : St} (ha : a.length = 1 ∨ a.length = 2 ∨ a.length = 3) (hs : (a ++ t).length ≤ 1000000) (hg : st.heap[g]? = some (gB (a ++ t, b))) :
    ASpec Try.prog 183 [.ptr g 0, .int .i64 (a.length : Nat)] st fun v st' => v = .int .i64 (leV a) ∧ st' = ⟨st.heap.set g (gB (t, b)), st.toks⟩ := by
  refine raw_of C3s F183 rfl ?_
  simp (disch := first | omega | (simp only [LL]; omega)) [WW, c183]
  refine (take_ok hs hg).mono ?_
  rintro _ _ ⟨rfl, rfl⟩
  have z0 : ∀ x : Int, 0 ≤ x → x ≤ 255 → intBin .or .i64 0 x = some (.int .i64 x) := fun x h0 h1 => by
    obtain ⟨m, rfl⟩ := Int.eq_ofNat_of_zero_le h0
    have := or_add 0 m 0 m ⟨by decide, by decide⟩ (by omega) (by omega)
    simpa using this
  have fin : ∀ x : Int, x = leV a → finishR st [.int .i64 x] ⟨st.heap.set g (gB (t, b)), st.toks⟩ fun v st' => v = .int .i64 (leV a) ∧ st' = ⟨st.heap.set g (gB (t, b)), st.toks⟩ := fun x hx => .inl ⟨by simp, Nat.le_refl _, by simp [hx], rfl⟩
  match a, ha with
  | [x], _ =>
    have hx := x.toNat_lt
    have s0 := shl_nn (x.toNat : Int) 0 0 (by omega) rfl (by decide) (by omega)
    simp only [Int.pow_zero, Int.mul_one] at s0
    have o0 := z0 x.toNat (by omega) (by omega)
    simp (disch := first | omega | (simp only [LL]; omega)) [WW]
    refine awC_loopU 2 ?_
    simp (disch := first | omega | (simp only [LL]; omega)) [WW, s0, o0]
    exact fin _ rfl
  | [x, y], _ =>
    have hx := x.toNat_lt
    have hy := y.toNat_lt
    have s0 := shl_nn (x.toNat : Int) 0 0 (by omega) rfl (by decide) (by omega)
    have s1 := shl_nn (y.toNat : Int) 8 8 (by omega) rfl (by decide) (by omega)
    simp only [Int.pow_zero, Int.mul_one] at s0
    have o0 := z0 x.toNat (by omega) (by omega)
    have o1 : intBin .or .i64 x.toNat ((y.toNat : Int) * 256) = some (.int .i64 (x.toNat + y.toNat * 256)) := or_add _ _ 8 y.toNat ⟨by omega, by show _ < (256 : Int); omega⟩ (by show _ = (256 : Int) * _; omega) (by omega)
    simp (disch := first | omega | (simp only [LL]; omega)) [WW]
    refine awC_loopU 3 ?_
    simp (disch := first | omega | (simp only [LL]; omega)) [WW, s0, o0, s1, o1]
    exact fin _ rfl
  | [x, y, z], _ =>
    have hx := x.toNat_lt
    have hy := y.toNat_lt
    have hz := z.toNat_lt
    have s0 := shl_nn (x.toNat : Int) 0 0 (by omega) rfl (by decide) (by omega)
    have s1 := shl_nn (y.toNat : Int) 8 8 (by omega) rfl (by decide) (by omega)
    have s2 := shl_nn (z.toNat : Int) 16 16 (by omega) rfl (by decide) (by omega)
    simp only [Int.pow_zero, Int.mul_one] at s0
    have o0 := z0 x.toNat (by omega) (by omega)
    have o1 : intBin .or .i64 x.toNat ((y.toNat : Int) * 256) = some (.int .i64 (x.toNat + y.toNat * 256)) := or_add _ _ 8 y.toNat ⟨by omega, by show _ < (256 : Int); omega⟩ (by show _ = (256 : Int) * _; omega) (by omega)
    have o2 : intBin .or .i64 ((x.toNat : Int) + y.toNat * 256) ((z.toNat : Int) * 65536) = some (.int .i64 (x.toNat + y.toNat * 256 + z.toNat * 65536)) := or_add _ _ 16 z.toNat ⟨by omega, by show _ < (65536 : Int); omega⟩ (by show _ = (65536 : Int) * _; omega) (by omega)
    simp (disch := first | omega | (simp only [LL]; omega)) [WW]
    refine awC_loopU 4 ?_
    simp (disch := first | omega | (simp only [LL]; omega)) [WW, s0, o0, s1, o1, s2, o2]
    exact fin _ rfl
end Go.Proofs.Ytjceilhmgbdgiaa

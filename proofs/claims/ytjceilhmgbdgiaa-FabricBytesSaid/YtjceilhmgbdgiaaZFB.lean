/- pack: numbers of so many bytes. -/
import Derived.Test.YtjceilhmgbdgiaaZFA
set_option linter.all false
namespace Go.Proofs.Ytjceilhmgbdgiaa
open Go.Am

def fitsK (n w : Int) : Bool := decide (1 ≤ w ∧ w ≤ 6 ∧ 0 ≤ n ∧ n / 2 ^ (8 * w).toNat = 0)

theorem fitsK_spec (n w : Int) (st : St) : ASpec Try.prog 139 [.int .i64 n, .int .i64 w] st fun v st' => v = .bool (fitsK n w) ∧ st' = st := by
  refine pure_of (R := fun v => v = _) G4s F139 rfl ?_
  simp (disch := first | omega | assumption | (simp only [LL]; omega)) [WW, c139]
  repeat' first
    | (refine region_static rfl (by decide +kernel) ?_; try simp (disch := first | omega | assumption | (simp only [LL]; omega)) [WW, shr_i64])
    | (refine And.intro (by omega) ?_; try simp (disch := first | omega | assumption | (simp only [LL]; omega)) [WW, shr_i64])
    | (refine guardK_ndec (fun h => ?_) (fun h => ?_) <;> (try simp (disch := first | omega | assumption | (simp only [LL]; omega)) [h, WW, shr_i64]))
    | (refine guardK_dec (fun h => ?_) (fun h => ?_) <;> (try simp (disch := first | omega | assumption | (simp only [LL]; omega)) [h, WW, shr_i64]))
    | (refine guardK_nbeq (fun h => ?_) (fun h => ?_) <;> (try simp (disch := first | omega | assumption | (simp only [LL]; omega)) [h, WW, shr_i64]))
    | (refine guardK_beq (fun h => ?_) (fun h => ?_) <;> (try simp (disch := first | omega | assumption | (simp only [LL]; omega)) [h, WW, shr_i64]))
    | (refine guardK_bne (fun h => ?_) (fun h => ?_) <;> (try simp (disch := first | omega | assumption | (simp only [LL]; omega)) [h, WW, shr_i64]))
    | (refine guardK_not (fun h => ?_) (fun h => ?_) <;> (try simp (disch := first | omega | assumption | (simp only [LL]; omega)) [h, WW, shr_i64]))
    | (refine guardK_split (fun h => ?_) (fun h => ?_) <;> (try simp (disch := first | omega | assumption | (simp only [LL]; omega)) [h, WW, shr_i64]))
    | (refine condK_ndec (fun h => ?_) (fun h => ?_) <;> (try simp (disch := first | omega | assumption | (simp only [LL]; omega)) [h, WW, shr_i64]))
    | (refine condK_dec (fun h => ?_) (fun h => ?_) <;> (try simp (disch := first | omega | assumption | (simp only [LL]; omega)) [h, WW, shr_i64]))
    | (refine condK_nbeq (fun h => ?_) (fun h => ?_) <;> (try simp (disch := first | omega | assumption | (simp only [LL]; omega)) [h, WW, shr_i64]))
    | (refine condK_beq (fun h => ?_) (fun h => ?_) <;> (try simp (disch := first | omega | assumption | (simp only [LL]; omega)) [h, WW, shr_i64]))
    | (refine condK_bne (fun h => ?_) (fun h => ?_) <;> (try simp (disch := first | omega | assumption | (simp only [LL]; omega)) [h, WW, shr_i64]))
    | (refine condK_not (fun h => ?_) (fun h => ?_) <;> (try simp (disch := first | omega | assumption | (simp only [LL]; omega)) [h, WW, shr_i64]))
    | (refine condK_split (fun h => ?_) (fun h => ?_) <;> (try simp (disch := first | omega | assumption | (simp only [LL]; omega)) [h, WW, shr_i64]))
  all_goals (rw [fitsK]; first | (apply decide_eq_false; omega) | (simp [*]; done) | trace_state)

attribute [irreducible] fitsK

noncomputable def H1 : Orc := G4.add 139 (tab (fun x : Int × Int => [.int .i64 x.1, .int .i64 x.2]) (fun x => .bool (fitsK x.1 x.2)) fun x => True)
theorem H1s : OSound Try.prog H1 := G4s.tab fun x h st => fitsK_spec x.1 x.2 st
@[simp] theorem H1_139 (n : Int) (w : Int) : H1 139 [.int .i64 n, .int .i64 w] = some (.bool (fitsK n w)) := by
  rw [H1, Orc.add_same]
  exact tab_eq (fun x y h => by simp at h; simp [h]) (x := (n, w)) trivial
@[simp] theorem H1_o (f : Nat) (args : List AV) (h : f ≠ 139) : H1 f args = G4 f args := by
  rw [H1, Orc.add_other _ _ _ _ _ h]
theorem fitsK_w {n w : Int} (h : fitsK n w = true) : 1 ≤ w ∧ w ≤ 6 ∧ 0 ≤ n ∧ n / 2 ^ (8 * w).toNat = 0 := by
  unfold fitsK at h
  exact of_decide_eq_true h

/-- A number's bytes, the lowest first. -/
def leK (w : Nat) (n : Int) : List UInt8 := (List.range w).map fun i => UInt8.ofInt (n / 2 ^ (8 * i))
theorem leK_succ (w : Nat) (n : Int) : leK (w + 1) n = leK w n ++ [UInt8.ofInt (n / 2 ^ (8 * w))] := by simp [leK, List.range_succ]
@[simp] theorem leK_length (w : Nat) (n : Int) : (leK w n).length = w := by simp [leK]

/-- What a number is put behind takes a token, and leaves a block behind. -/
theorem putK_spec (l : List UInt8) (n w : Int) (t : Tok) (hf : fitsK n w = true) (hl : l.length ≤ 1048576) (st : St) : ASpec Try.prog 92 [.sl t (ofBytes l), .int .i64 n, .int .i64 w] st fun v st' => v = .tup [.sl (.own st.toks.length) (ofBytes (l ++ leK w.toNat n)), .int .i64 0] ∧ st' = ⟨st.heap ++ [.cells true (ofBytes l)], st.toks ++ [((l ++ leK w.toNat n).length, 1)]⟩ := by
  refine raw_of H1s F92 rfl ?_
  obtain ⟨h1, h2, h3, h4⟩ := fitsK_w hf
  have ho : setRange (ofBytes (z8 l.length)) 0 (ofBytes l) = ofBytes l := setRange_all (by simp)
  have hd : l.drop l.length = [] := by simp
  simp (disch := first | omega | assumption | (simp only [LL]; omega)) [WW, c92, hf, ho]
  refine ⟨by omega, ?_⟩
  refine awC_loopM 8 st.heap.length l.length none (ofBytes l) (by simp) (by simp) (by simp) (by simp) (fun k env s => ∃ i, k + i = w.toNat ∧ env 1 = .int .i64 n ∧ env 8 = .sl (.own st.toks.length) (ofBytes (l ++ leK i n)) ∧ env 24 = .int .i64 w ∧ env 25 = .int .i64 i ∧ s = ⟨st.heap ++ [.cells true (ofBytes l)], st.toks ++ [(l.length + i, 1)]⟩) w.toNat ?_ ?_
  · exact ⟨0, by simp [leK]⟩
  rintro k env s ⟨i, hk, e1, e8, e24, e25, rfl⟩
  by_cases hi : i < w.toNat
  · have hi' : (i : Int) < w := by omega
    simp (disch := first | omega | assumption | (simp only [LL]; omega)) [WW, e1, e8, e24, e25, hi, hi', shr_i64]
    have hx : l ++ (leK i n ++ [UInt8.ofInt (n / 2 ^ (8 * (i : Int)).toNat)]) = l ++ leK (i + 1) n := by
      rw [leK_succ, show (8 * (i : Int)).toNat = 8 * i by omega]
    refine ⟨by omega, k - 1, by omega, [1, 8, 24, 25], _, .tok (tk := st.toks ++ [(l.length + (i + 1), 1)]) (by simp) (by simp; omega) (by simp) ?_, i + 1, by omega, ?_⟩
    · simp [e1, e24, hx]
    · simp [e1, e24, hx]
  · have hi' : ¬ (i : Int) < w := by omega
    have hiw : i = w.toNat := by omega
    rw [hiw] at e8
    simp (disch := first | omega | assumption | (simp only [LL]; omega)) [WW, e1, e8, e24, e25, hi, hi']
    exact .inl ⟨by simp, by simp, by rw [hiw]; exact ⟨rfl, by simp⟩⟩
/-- A number out of bytes, the lowest first. -/
def numK : List UInt8 → Nat
  | [] => 0
  | b :: l => b.toNat + 256 * numK l

theorem numK_append (a b : List UInt8) : numK (a ++ b) = numK a + 256 ^ a.length * numK b := by
  induction a with
  | nil => simp [numK]
  | cons x a ih =>
    simp only [List.cons_append, numK, ih, List.length_cons, Nat.pow_succ]
    rw [Nat.mul_add, ← Nat.mul_assoc, Nat.mul_comm 256 (256 ^ a.length)]
    omega
theorem numK_lt (a : List UInt8) : numK a < 256 ^ a.length := by
  induction a with
  | nil => simp [numK]
  | cons x a ih =>
    have := x.toNat_lt
    simp only [numK, List.length_cons, Nat.pow_succ]
    omega

theorem or_i64k (a b : Nat) (ha : a < 2 ^ 63) (hb : b < 2 ^ 63) : intBin .or .i64 a b = some (.int .i64 (a ||| b : Nat)) := by
  show some (AV.int .i64 (IntKind.i64.wrap (((BitVec.ofInt 64 a ||| BitVec.ofInt 64 b).toNat : Nat) : Int))) = _
  have h := Nat.or_lt_two_pow ha hb
  rw [BitVec.ofInt_natCast, BitVec.ofInt_natCast, BitVec.toNat_or, BitVec.toNat_ofNat, BitVec.toNat_ofNat, Nat.mod_eq_of_lt (by omega), Nat.mod_eq_of_lt (by omega), IntWalk.i64_in _ (by omega)]
theorem shl_i64k (x y : Nat) (hy : y ≤ 64) (h : x * 2 ^ y < 2 ^ 63) : shiftBin .shl .i64 x y = some (.int .i64 (x * 2 ^ y : Nat)) := by
  rw [shiftBin, if_neg (by omega)]
  show some (AV.int .i64 (IntKind.i64.wrap ((x : Int) * 2 ^ (min (y : Int).toNat 64)))) = _
  rw [show min (y : Int).toNat 64 = y by omega]
  have : (x : Int) * 2 ^ y = ((x * 2 ^ y : Nat) : Int) := by simp
  rw [this, IntWalk.i64_in _ (by omega)]

def getK (l : List UInt8) (at_ w : Int) : AV :=
  if w < 1 ∨ 6 < w then .tup [.int .i64 0, .int .i64 2]
  else if at_ < 0 ∨ (l.length : Int) < w ∨ (l.length : Int) - w < at_ then .tup [.int .i64 0, .int .i64 40]
  else .tup [.int .i64 (numK ((l.drop at_.toNat).take w.toNat)), .int .i64 0]

theorem getK_spec (l : List UInt8) (at_ w : Int) (hl : l.length ≤ 1048576) (st : St) : ASpec Try.prog 145 [.sl .any (ofBytes l), .int .i64 at_, .int .i64 w] st fun v st' => v = getK l at_ w ∧ st' = st := by
  refine pure_of (R := fun v => v = _) H1s F145 rfl ?_
  simp (disch := first | omega | assumption | (simp only [LL]; omega)) [WW, c145]
  repeat' first
    | (refine region_static rfl (by decide +kernel) ?_; try simp (disch := first | omega | assumption | (simp only [LL]; omega)) [WW])
    | (refine And.intro (by omega) ?_; try simp (disch := first | omega | assumption | (simp only [LL]; omega)) [WW])
    | (refine guardK_ndec (fun h => ?_) (fun h => ?_) <;> (try simp (disch := first | omega | assumption | (simp only [LL]; omega)) [h, WW]))
    | (refine guardK_dec (fun h => ?_) (fun h => ?_) <;> (try simp (disch := first | omega | assumption | (simp only [LL]; omega)) [h, WW]))
    | (refine guardK_nbeq (fun h => ?_) (fun h => ?_) <;> (try simp (disch := first | omega | assumption | (simp only [LL]; omega)) [h, WW]))
    | (refine guardK_beq (fun h => ?_) (fun h => ?_) <;> (try simp (disch := first | omega | assumption | (simp only [LL]; omega)) [h, WW]))
    | (refine guardK_bne (fun h => ?_) (fun h => ?_) <;> (try simp (disch := first | omega | assumption | (simp only [LL]; omega)) [h, WW]))
    | (refine guardK_not (fun h => ?_) (fun h => ?_) <;> (try simp (disch := first | omega | assumption | (simp only [LL]; omega)) [h, WW]))
    | (refine guardK_split (fun h => ?_) (fun h => ?_) <;> (try simp (disch := first | omega | assumption | (simp only [LL]; omega)) [h, WW]))
    | (refine condK_ndec (fun h => ?_) (fun h => ?_) <;> (try simp (disch := first | omega | assumption | (simp only [LL]; omega)) [h, WW]))
    | (refine condK_dec (fun h => ?_) (fun h => ?_) <;> (try simp (disch := first | omega | assumption | (simp only [LL]; omega)) [h, WW]))
    | (refine condK_nbeq (fun h => ?_) (fun h => ?_) <;> (try simp (disch := first | omega | assumption | (simp only [LL]; omega)) [h, WW]))
    | (refine condK_beq (fun h => ?_) (fun h => ?_) <;> (try simp (disch := first | omega | assumption | (simp only [LL]; omega)) [h, WW]))
    | (refine condK_bne (fun h => ?_) (fun h => ?_) <;> (try simp (disch := first | omega | assumption | (simp only [LL]; omega)) [h, WW]))
    | (refine condK_not (fun h => ?_) (fun h => ?_) <;> (try simp (disch := first | omega | assumption | (simp only [LL]; omega)) [h, WW]))
    | (refine condK_split (fun h => ?_) (fun h => ?_) <;> (try simp (disch := first | omega | assumption | (simp only [LL]; omega)) [h, WW]))
  all_goals try (rw [getK, if_pos (by omega)]; done)
  all_goals try (rw [getK, if_neg (by omega), if_pos (by omega)]; done)
  rename_i h2 h3 h4 h5
  obtain ⟨at', rfl⟩ : ∃ n : Nat, at_ = n := ⟨at_.toNat, by omega⟩
  obtain ⟨w', rfl⟩ : ∃ n : Nat, w = n := ⟨w.toNat, by omega⟩
  refine awC_loop (fun k env s => ∃ i, k + i = w' ∧ env 0 = .sl .any (ofBytes l) ∧ env 1 = .int .i64 at' ∧ env 6 = .int .i64 (numK ((l.drop at').take i)) ∧ env 33 = .int .i64 w' ∧ env 34 = .int .i64 i ∧ s = st) w' ?_ ?_
  · exact ⟨0, by simp [numK]⟩
  rintro k env s ⟨i, hk, e0, e1, e6, e33, e34, rfl⟩
  by_cases hi : i < w'
  · have hi' : (i : Int) < w' := by omega
    have hat : at' + i < l.length := by omega
    have hb := (l[at' + i]).toNat_lt
    have hp : 256 ^ i ≤ 256 ^ 5 := Nat.pow_le_pow_right (by decide) (by omega)
    have hlen : ((l.drop at').take i).length = i := by simp; omega
    have hnum := numK_lt ((l.drop at').take i)
    rw [hlen] at hnum
    have hpw : 2 ^ (8 * i) = 256 ^ i := by rw [Nat.pow_mul]
    have hmul : (l[at' + i]).toNat * 256 ^ i < 2 ^ 63 := by
      calc (l[at' + i]).toNat * 256 ^ i ≤ 255 * 256 ^ 5 := Nat.mul_le_mul (by omega) hp
        _ < 2 ^ 63 := by decide
    have s1 : shiftBin .shl .i64 ((l[at' + i]).toNat : Int) (8 * (i : Int)) = some (.int .i64 ((l[at' + i]).toNat * 256 ^ i : Nat)) := by
      have := shl_i64k (l[at' + i]).toNat (8 * i) (by omega) (by rw [hpw]; exact hmul)
      rw [hpw] at this
      exact this
    have s2 : intBin .or .i64 (numK ((l.drop at').take i) : Int) ((l[at' + i]).toNat * 256 ^ i : Int) = some (.int .i64 (numK ((l.drop at').take (i + 1)) : Nat)) := by
      have hcast : ((l[at' + i]).toNat * 256 ^ i : Int) = (((l[at' + i]).toNat * 256 ^ i : Nat) : Int) := by simp
      rw [hcast]
      rw [or_i64k _ _ (by omega) hmul, List.take_succ_eq_append_getElem (by simp; omega), numK_append, hlen]
      have h := Nat.two_pow_add_eq_or_of_lt (b := numK ((l.drop at').take i)) (i := 8 * i) (by rw [hpw]; exact hnum) (l[at' + i]).toNat
      rw [hpw] at h
      congr 3
      rw [Nat.or_comm, Nat.mul_comm, ← h]
      simp [numK]
      omega
    have hti : ((at' : Int) + i).toNat = at' + i := by omega
    have hgi : (ofBytes l)[((at' : Int) + i).toNat]? = some (u8 l[at' + i]) := by rw [hti, ofBytes_get, List.getElem?_eq_getElem hat]; rfl
    have h0i : 0 ≤ (at' : Int) + i := by omega
    simp (disch := first | omega | assumption | (simp only [LL]; omega)) [WW, e0, e1, e6, e33, e34, hi, hi', hat, hgi, h0i, s1, s2]
    refine ⟨k - 1, by omega, [0, 1, 6, 33, 34], _, .pop (by simp) (by simp) (by simp [e0, e1, e33]), i + 1, by omega, ?_⟩
    simp [e0, e1, e33]
  · have hi' : ¬ (i : Int) < w' := by omega
    have hiw : i = w' := by omega
    simp (disch := first | omega | assumption | (simp only [LL]; omega)) [WW, e0, e1, e6, e33, e34, hi, hi']
    rw [getK, if_neg (by omega), if_neg (by omega), hiw]
    rfl


noncomputable def H2 : Orc := H1.add 145 (tab (fun x : List UInt8 × Int × Int => [.sl .any (ofBytes x.1), .int .i64 x.2.1, .int .i64 x.2.2]) (fun x => getK x.1 x.2.1 x.2.2) fun x => x.1.length ≤ 1048576)
theorem H2s : OSound Try.prog H2 := H1s.tab fun x h st => getK_spec x.1 x.2.1 x.2.2 h st
@[simp] theorem H2_145 (l : List UInt8) (a : Int) (w : Int) (h : l.length ≤ 1048576) : H2 145 [.sl .any (ofBytes l), .int .i64 a, .int .i64 w] = some (getK l a w) := by
  rw [H2, Orc.add_same]
  exact tab_eq (fun x y h => by simp at h; simp [h]) (x := (l, a, w)) h
@[simp] theorem H2_o (f : Nat) (args : List AV) (h : f ≠ 145) : H2 f args = H1 f args := by
  rw [H2, Orc.add_other _ _ _ _ _ h]
end Go.Proofs.Ytjceilhmgbdgiaa

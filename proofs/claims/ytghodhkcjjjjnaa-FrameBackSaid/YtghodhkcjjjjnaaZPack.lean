/- pack, sums.Seal, sums.Open: what they hand back. -/
import Derived.Test.YtghodhkcjjjjnaaZLoads
set_option linter.all false
namespace Go.Proofs.Ytghodhkcjjjjnaa
open Go.Am

def fits (n w : Int) : Bool := decide (1 ≤ w ∧ w ≤ 6 ∧ 0 ≤ n ∧ n / 2 ^ (8 * w).toNat = 0)

theorem fits_spec (n w : Int) (st : St) : ASpec Try.prog 32 [.int .i64 n, .int .i64 w] st fun v st' => v = .bool (fits n w) ∧ st' = st := by
  refine pure_of (R := fun v => v = _) O9s F32 rfl ?_
  simp (disch := first | omega | (simp only [List.length_take, List.length_drop, List.length_append, List.length_cons, List.length_nil, List.length_map]; omega)) [IntWalk.i64_in, IntWalk.i64_quo, c32]
  repeat' first
    | (refine region_static rfl (by decide +kernel) ?_; try simp (disch := first | omega | (simp only [List.length_take, List.length_drop, List.length_append, List.length_cons, List.length_nil, List.length_map]; omega)) [IntWalk.i64_in, IntWalk.i64_quo, shr_i64])
    | (refine And.intro (by omega) ?_; try simp (disch := first | omega | (simp only [List.length_take, List.length_drop, List.length_append, List.length_cons, List.length_nil, List.length_map]; omega)) [IntWalk.i64_in, IntWalk.i64_quo, shr_i64])
    | (refine guardK_ndec (fun h => ?_) (fun h => ?_) <;> (try simp (disch := first | omega | (simp only [List.length_take, List.length_drop, List.length_append, List.length_cons, List.length_nil, List.length_map]; omega)) [h, IntWalk.i64_in, IntWalk.i64_quo, shr_i64]))
    | (refine guardK_dec (fun h => ?_) (fun h => ?_) <;> (try simp (disch := first | omega | (simp only [List.length_take, List.length_drop, List.length_append, List.length_cons, List.length_nil, List.length_map]; omega)) [h, IntWalk.i64_in, IntWalk.i64_quo, shr_i64]))
    | (refine guardK_nbeq (fun h => ?_) (fun h => ?_) <;> (try simp (disch := first | omega | (simp only [List.length_take, List.length_drop, List.length_append, List.length_cons, List.length_nil, List.length_map]; omega)) [h, IntWalk.i64_in, IntWalk.i64_quo, shr_i64]))
    | (refine guardK_beq (fun h => ?_) (fun h => ?_) <;> (try simp (disch := first | omega | (simp only [List.length_take, List.length_drop, List.length_append, List.length_cons, List.length_nil, List.length_map]; omega)) [h, IntWalk.i64_in, IntWalk.i64_quo, shr_i64]))
    | (refine guardK_bne (fun h => ?_) (fun h => ?_) <;> (try simp (disch := first | omega | (simp only [List.length_take, List.length_drop, List.length_append, List.length_cons, List.length_nil, List.length_map]; omega)) [h, IntWalk.i64_in, IntWalk.i64_quo, shr_i64]))
    | (refine guardK_not (fun h => ?_) (fun h => ?_) <;> (try simp (disch := first | omega | (simp only [List.length_take, List.length_drop, List.length_append, List.length_cons, List.length_nil, List.length_map]; omega)) [h, IntWalk.i64_in, IntWalk.i64_quo, shr_i64]))
    | (refine guardK_split (fun h => ?_) (fun h => ?_) <;> (try simp (disch := first | omega | (simp only [List.length_take, List.length_drop, List.length_append, List.length_cons, List.length_nil, List.length_map]; omega)) [h, IntWalk.i64_in, IntWalk.i64_quo, shr_i64]))
    | (refine condK_ndec (fun h => ?_) (fun h => ?_) <;> (try simp (disch := first | omega | (simp only [List.length_take, List.length_drop, List.length_append, List.length_cons, List.length_nil, List.length_map]; omega)) [h, IntWalk.i64_in, IntWalk.i64_quo, shr_i64]))
    | (refine condK_dec (fun h => ?_) (fun h => ?_) <;> (try simp (disch := first | omega | (simp only [List.length_take, List.length_drop, List.length_append, List.length_cons, List.length_nil, List.length_map]; omega)) [h, IntWalk.i64_in, IntWalk.i64_quo, shr_i64]))
    | (refine condK_nbeq (fun h => ?_) (fun h => ?_) <;> (try simp (disch := first | omega | (simp only [List.length_take, List.length_drop, List.length_append, List.length_cons, List.length_nil, List.length_map]; omega)) [h, IntWalk.i64_in, IntWalk.i64_quo, shr_i64]))
    | (refine condK_beq (fun h => ?_) (fun h => ?_) <;> (try simp (disch := first | omega | (simp only [List.length_take, List.length_drop, List.length_append, List.length_cons, List.length_nil, List.length_map]; omega)) [h, IntWalk.i64_in, IntWalk.i64_quo, shr_i64]))
    | (refine condK_bne (fun h => ?_) (fun h => ?_) <;> (try simp (disch := first | omega | (simp only [List.length_take, List.length_drop, List.length_append, List.length_cons, List.length_nil, List.length_map]; omega)) [h, IntWalk.i64_in, IntWalk.i64_quo, shr_i64]))
    | (refine condK_not (fun h => ?_) (fun h => ?_) <;> (try simp (disch := first | omega | (simp only [List.length_take, List.length_drop, List.length_append, List.length_cons, List.length_nil, List.length_map]; omega)) [h, IntWalk.i64_in, IntWalk.i64_quo, shr_i64]))
    | (refine condK_split (fun h => ?_) (fun h => ?_) <;> (try simp (disch := first | omega | (simp only [List.length_take, List.length_drop, List.length_append, List.length_cons, List.length_nil, List.length_map]; omega)) [h, IntWalk.i64_in, IntWalk.i64_quo, shr_i64]))
  all_goals (rw [fits]; first | (apply decide_eq_false; omega) | (simp [*]; done) | trace_state)

attribute [irreducible] fits
noncomputable def P1 : Orc := O9.add 32 (tab (fun x : Int × Int => [.int .i64 x.1, .int .i64 x.2]) (fun x => .bool (fits x.1 x.2)) fun _ => True)
theorem P1s : OSound Try.prog P1 := O9s.tab fun x _ st => fits_spec x.1 x.2 st
theorem P1_32 (n w : Int) : P1 32 [.int .i64 n, .int .i64 w] = some (.bool (fits n w)) := by
  rw [P1, Orc.add_same]
  exact tab_eq (fun x y h => by simp at h; rw [h.1, h.2]) (x := (n, w)) trivial

theorem fits_w {n w : Int} (h : fits n w = true) : 1 ≤ w ∧ w ≤ 6 ∧ 0 ≤ n ∧ n / 2 ^ (8 * w).toNat = 0 := by
  unfold fits at h
  exact of_decide_eq_true h

/-- A number's bytes, the lowest first. -/
def le (w : Nat) (n : Int) : List UInt8 := (List.range w).map fun i => UInt8.ofInt (n / 2 ^ (8 * i))
theorem le_succ (w : Nat) (n : Int) : le (w + 1) n = le w n ++ [UInt8.ofInt (n / 2 ^ (8 * w))] := by simp [le, List.range_succ]
@[simp] theorem le_length (w : Nat) (n : Int) : (le w n).length = w := by simp [le]
def putA (l : List UInt8) (n w : Int) : AV := if fits n w = true then .tup [.sl .any (ofBytes (l ++ le w.toNat n)), .int .i64 0] else .tup [.sl .any [], .int .i64 2]

theorem put_spec (l : List UInt8) (n w : Int) (hl : l.length ≤ 1048576) (st : St) : ASpec Try.prog 22 [.sl .any (ofBytes l), .int .i64 n, .int .i64 w] st fun v st' => v = putA l n w ∧ st' = st := by
  refine pure_of (R := fun v => v = _) P1s F22 rfl ?_
  by_cases hf : fits n w = true
  case neg => 
    simp (disch := first | omega | (simp only [List.length_take, List.length_drop, List.length_append, List.length_cons, List.length_nil, List.length_map]; omega)) [IntWalk.i64_in, IntWalk.i64_quo, c22, P1_32, hf, putA]
  obtain ⟨h1, h2, h3, h4⟩ := fits_w hf
  have ho : setRange (ofBytes (z8 l.length)) 0 (ofBytes l) = ofBytes l := setRange_all (by simp)
  have hd : l.drop l.length = [] := by simp
  simp (disch := first | omega | (simp only [List.length_take, List.length_drop, List.length_append, List.length_cons, List.length_nil, List.length_map]; omega)) [IntWalk.i64_in, IntWalk.i64_quo, c22, P1_32, hf, ho]
  refine ⟨by omega, ?_⟩
  refine awC_loopM 8 st.heap.length l.length none (ofBytes l) (by simp) (by simp) (by simp) (by simp) (fun k env s => ∃ i, k + i = w.toNat ∧ env 1 = .int .i64 n ∧ env 8 = .sl (.own st.toks.length) (ofBytes (l ++ le i n)) ∧ env 24 = .int .i64 w ∧ env 25 = .int .i64 i ∧ s = ⟨st.heap ++ [.cells true (ofBytes l)], st.toks ++ [(l.length + i, 1)]⟩) w.toNat ?_ ?_
  · exact ⟨0, by simp [le]⟩
  rintro k env s ⟨i, hk, e1, e8, e24, e25, rfl⟩
  by_cases hi : i < w.toNat
  · have hi' : (i : Int) < w := by omega
    simp (disch := first | omega | (simp only [List.length_take, List.length_drop, List.length_append, List.length_cons, List.length_nil, List.length_map]; omega)) [IntWalk.i64_in, IntWalk.i64_quo, e1, e8, e24, e25, hi, hi', shr_i64]
    have hx : l ++ (le i n ++ [UInt8.ofInt (n / 2 ^ (8 * (i : Int)).toNat)]) = l ++ le (i + 1) n := by
      rw [le_succ, show (8 * (i : Int)).toNat = 8 * i by omega]
    refine ⟨by omega, k - 1, by omega, [1, 8, 24, 25], _, .tok (tk := st.toks ++ [(l.length + (i + 1), 1)]) (by simp) (by simp; omega) (by simp) ?_, i + 1, by omega, ?_⟩
    · simp [e1, e24, hx]
    · simp [e1, e24, hx]
  · have hi' : ¬ (i : Int) < w := by omega
    have hiw : i = w.toNat := by omega
    simp (disch := first | omega | (simp only [List.length_take, List.length_drop, List.length_append, List.length_cons, List.length_nil, List.length_map]; omega)) [IntWalk.i64_in, IntWalk.i64_quo, e1, e8, e24, e25, hi, hi', putA, hf]
    rw [hiw]

noncomputable def P2 : Orc := P1.add 22 (tab (fun x : List UInt8 × Int × Int => [.sl .any (ofBytes x.1), .int .i64 x.2.1, .int .i64 x.2.2]) (fun x => putA x.1 x.2.1 x.2.2) fun x => x.1.length ≤ 1048576)
theorem P2s : OSound Try.prog P2 := P1s.tab fun x h st => put_spec x.1 x.2.1 x.2.2 h st
theorem P2_22 (l : List UInt8) (n w : Int) (h : l.length ≤ 1048576) : P2 22 [.sl .any (ofBytes l), .int .i64 n, .int .i64 w] = some (putA l n w) := by
  rw [P2, Orc.add_same]
  exact tab_eq (fun x y h => by simp at h; rw [h.1, h.2.1, h.2.2]) (x := (l, n, w)) h

theorem P2_20 (l : List UInt8) (h : l.length ≤ 2147483648) : P2 20 [.sl .any (ofBytes l)] = some (u32 (crc l)) := by
  rw [P2, Orc.add_other _ _ _ _ _ (by decide), P1, Orc.add_other _ _ _ _ _ (by decide), O9, Orc.add_other _ _ _ _ _ (by decide), O8, Orc.add_other _ _ _ _ _ (by decide), O7_20 l h]

/-- A sum's bytes. -/
def crcB (r : BitVec 32) : List UInt8 := [UInt8.ofBitVec (r.setWidth 8), UInt8.ofBitVec ((r >>> 8).setWidth 8), UInt8.ofBitVec ((r >>> 16).setWidth 8), UInt8.ofBitVec ((r >>> 24).setWidth 8)]
def seal_ (l : List UInt8) : List UInt8 := l ++ crcB (crc l)

theorem seal_spec (l : List UInt8) (hl : l.length ≤ 1048576) (st : St) : ASpec Try.prog 23 [.sl .any (ofBytes l)] st fun v st' => v = .sl .any (ofBytes (seal_ l)) ∧ st' = st := by
  refine pure_of (R := fun v => v = _) P2s F23 rfl ?_
  simp (disch := first | omega | (simp only [List.length_take, List.length_drop, List.length_append, List.length_cons, List.length_nil, List.length_map]; omega)) [IntWalk.i64_in, IntWalk.i64_quo, c23, P2_20]
  refine ⟨by omega, ?_⟩
  simp [seal_, crcB]

noncomputable def P3 : Orc := P2.add 23 (tab (fun x : List UInt8 => [.sl .any (ofBytes x)]) (fun x => .sl .any (ofBytes (seal_ x))) fun x => x.length ≤ 1048576)
theorem P3s : OSound Try.prog P3 := P2s.tab fun x h st => seal_spec x h st
theorem P3_23 (l : List UInt8) (h : l.length ≤ 1048576) : P3 23 [.sl .any (ofBytes l)] = some (.sl .any (ofBytes (seal_ l))) := by
  rw [P3, Orc.add_same]
  exact tab_eq (fun x y h => by simp at h; rw [h]) (x := l) h
theorem seal_length (l : List UInt8) : (seal_ l).length = l.length + 4 := by simp [seal_, crcB]

/-- What a sealed row holds, if its sum is right. -/
def openA (l : List UInt8) : AV := if 4 ≤ l.length ∧ crcB (crc (l.take (l.length - 4))) = l.drop (l.length - 4) then .tup [.sl .any (ofBytes (l.take (l.length - 4))), .bool true] else .tup [.sl .any [], .bool false]

theorem open_spec (l : List UInt8) (hl : l.length ≤ 1048576) (st : St) : ASpec Try.prog 26 [.sl .any (ofBytes l)] st fun v st' => v = openA l ∧ st' = st := by
  refine pure_of (R := fun v => v = _) P3s F26 rfl ?_
  by_cases h4 : 4 ≤ l.length
  case neg =>
    have h4' : (l.length : Int) - 4 < 0 := by omega
    simp (disch := first | omega | (simp only [List.length_take, List.length_drop, List.length_append, List.length_cons, List.length_nil, List.length_map]; omega)) [IntWalk.i64_in, IntWalk.i64_quo, c26]
    repeat' first
      | (refine region_static rfl (by decide +kernel) ?_; try simp (disch := first | omega | (simp only [List.length_take, List.length_drop, List.length_append, List.length_cons, List.length_nil, List.length_map]; omega)) [IntWalk.i64_in, IntWalk.i64_quo, h4', h4])
      | (refine And.intro (by omega) ?_; try simp (disch := first | omega | (simp only [List.length_take, List.length_drop, List.length_append, List.length_cons, List.length_nil, List.length_map]; omega)) [IntWalk.i64_in, IntWalk.i64_quo, h4', h4])
      | (refine guardK_ndec (fun h => ?_) (fun h => ?_) <;> (try simp (disch := first | omega | (simp only [List.length_take, List.length_drop, List.length_append, List.length_cons, List.length_nil, List.length_map]; omega)) [h, IntWalk.i64_in, IntWalk.i64_quo, h4', h4]))
      | (refine guardK_dec (fun h => ?_) (fun h => ?_) <;> (try simp (disch := first | omega | (simp only [List.length_take, List.length_drop, List.length_append, List.length_cons, List.length_nil, List.length_map]; omega)) [h, IntWalk.i64_in, IntWalk.i64_quo, h4', h4]))
      | (refine guardK_nbeq (fun h => ?_) (fun h => ?_) <;> (try simp (disch := first | omega | (simp only [List.length_take, List.length_drop, List.length_append, List.length_cons, List.length_nil, List.length_map]; omega)) [h, IntWalk.i64_in, IntWalk.i64_quo, h4', h4]))
      | (refine guardK_beq (fun h => ?_) (fun h => ?_) <;> (try simp (disch := first | omega | (simp only [List.length_take, List.length_drop, List.length_append, List.length_cons, List.length_nil, List.length_map]; omega)) [h, IntWalk.i64_in, IntWalk.i64_quo, h4', h4]))
      | (refine guardK_bne (fun h => ?_) (fun h => ?_) <;> (try simp (disch := first | omega | (simp only [List.length_take, List.length_drop, List.length_append, List.length_cons, List.length_nil, List.length_map]; omega)) [h, IntWalk.i64_in, IntWalk.i64_quo, h4', h4]))
      | (refine guardK_not (fun h => ?_) (fun h => ?_) <;> (try simp (disch := first | omega | (simp only [List.length_take, List.length_drop, List.length_append, List.length_cons, List.length_nil, List.length_map]; omega)) [h, IntWalk.i64_in, IntWalk.i64_quo, h4', h4]))
      | (refine guardK_split (fun h => ?_) (fun h => ?_) <;> (try simp (disch := first | omega | (simp only [List.length_take, List.length_drop, List.length_append, List.length_cons, List.length_nil, List.length_map]; omega)) [h, IntWalk.i64_in, IntWalk.i64_quo, h4', h4]))
      | (refine condK_ndec (fun h => ?_) (fun h => ?_) <;> (try simp (disch := first | omega | (simp only [List.length_take, List.length_drop, List.length_append, List.length_cons, List.length_nil, List.length_map]; omega)) [h, IntWalk.i64_in, IntWalk.i64_quo, h4', h4]))
      | (refine condK_dec (fun h => ?_) (fun h => ?_) <;> (try simp (disch := first | omega | (simp only [List.length_take, List.length_drop, List.length_append, List.length_cons, List.length_nil, List.length_map]; omega)) [h, IntWalk.i64_in, IntWalk.i64_quo, h4', h4]))
      | (refine condK_nbeq (fun h => ?_) (fun h => ?_) <;> (try simp (disch := first | omega | (simp only [List.length_take, List.length_drop, List.length_append, List.length_cons, List.length_nil, List.length_map]; omega)) [h, IntWalk.i64_in, IntWalk.i64_quo, h4', h4]))
      | (refine condK_beq (fun h => ?_) (fun h => ?_) <;> (try simp (disch := first | omega | (simp only [List.length_take, List.length_drop, List.length_append, List.length_cons, List.length_nil, List.length_map]; omega)) [h, IntWalk.i64_in, IntWalk.i64_quo, h4', h4]))
      | (refine condK_bne (fun h => ?_) (fun h => ?_) <;> (try simp (disch := first | omega | (simp only [List.length_take, List.length_drop, List.length_append, List.length_cons, List.length_nil, List.length_map]; omega)) [h, IntWalk.i64_in, IntWalk.i64_quo, h4', h4]))
      | (refine condK_not (fun h => ?_) (fun h => ?_) <;> (try simp (disch := first | omega | (simp only [List.length_take, List.length_drop, List.length_append, List.length_cons, List.length_nil, List.length_map]; omega)) [h, IntWalk.i64_in, IntWalk.i64_quo, h4', h4]))
      | (refine condK_split (fun h => ?_) (fun h => ?_) <;> (try simp (disch := first | omega | (simp only [List.length_take, List.length_drop, List.length_append, List.length_cons, List.length_nil, List.length_map]; omega)) [h, IntWalk.i64_in, IntWalk.i64_quo, h4', h4]))
    rw [openA, if_neg (fun h => h4 h.1)]
  obtain ⟨n, hn⟩ : ∃ n, l.length = n + 4 := ⟨l.length - 4, by omega⟩
  have h23 := P3_23 (l.take n) (by simp; omega)
  have hlt : (l.take n).length = n := by simp; omega
  have hs : ((seal_ (l.take n)).drop n).take ((seal_ (l.take n)).length - n) = crcB (crc (l.take n)) := by
    rw [seal_length, hlt, seal_, List.drop_append_of_le_length (by omega), List.drop_of_length_le (by omega)]
    simp [crcB]
  have hsl : n ≤ (seal_ (l.take n)).length := by rw [seal_length, hlt]; omega
  have ht4 : (l.drop n).take 4 = l.drop n := List.take_of_length_le (by simp; omega)
  have hA : openA l = if crcB (crc (l.take n)) = l.drop n then .tup [.sl .any (ofBytes (l.take n)), .bool true] else .tup [.sl .any [], .bool false] := by
    rw [openA, hn, show n + 4 - 4 = n by omega]
    simp
  have h0 : ¬ (n : Int) < 0 := by omega
  have h1 : (n : Int) ≤ n + 4 := by omega
  simp (disch := first | omega | (simp only [List.length_take, List.length_drop, List.length_append, List.length_cons, List.length_nil, List.length_map]; omega)) [IntWalk.i64_in, IntWalk.i64_quo, c26, hn, h0]
  repeat' first
    | (refine region_static rfl (by decide +kernel) ?_; try simp (disch := first | omega | (simp only [List.length_take, List.length_drop, List.length_append, List.length_cons, List.length_nil, List.length_map]; omega)) [IntWalk.i64_in, IntWalk.i64_quo, h0, h1, hn, h23, hs, hsl, ht4])
    | (refine And.intro (by omega) ?_; try simp (disch := first | omega | (simp only [List.length_take, List.length_drop, List.length_append, List.length_cons, List.length_nil, List.length_map]; omega)) [IntWalk.i64_in, IntWalk.i64_quo, h0, h1, hn, h23, hs, hsl, ht4])
    | (refine guardK_ndec (fun h => ?_) (fun h => ?_) <;> (try simp (disch := first | omega | (simp only [List.length_take, List.length_drop, List.length_append, List.length_cons, List.length_nil, List.length_map]; omega)) [h, IntWalk.i64_in, IntWalk.i64_quo, h0, h1, hn, h23, hs, hsl, ht4]))
    | (refine guardK_dec (fun h => ?_) (fun h => ?_) <;> (try simp (disch := first | omega | (simp only [List.length_take, List.length_drop, List.length_append, List.length_cons, List.length_nil, List.length_map]; omega)) [h, IntWalk.i64_in, IntWalk.i64_quo, h0, h1, hn, h23, hs, hsl, ht4]))
    | (refine guardK_nbeq (fun h => ?_) (fun h => ?_) <;> (try simp (disch := first | omega | (simp only [List.length_take, List.length_drop, List.length_append, List.length_cons, List.length_nil, List.length_map]; omega)) [h, IntWalk.i64_in, IntWalk.i64_quo, h0, h1, hn, h23, hs, hsl, ht4]))
    | (refine guardK_beq (fun h => ?_) (fun h => ?_) <;> (try simp (disch := first | omega | (simp only [List.length_take, List.length_drop, List.length_append, List.length_cons, List.length_nil, List.length_map]; omega)) [h, IntWalk.i64_in, IntWalk.i64_quo, h0, h1, hn, h23, hs, hsl, ht4]))
    | (refine guardK_bne (fun h => ?_) (fun h => ?_) <;> (try simp (disch := first | omega | (simp only [List.length_take, List.length_drop, List.length_append, List.length_cons, List.length_nil, List.length_map]; omega)) [h, IntWalk.i64_in, IntWalk.i64_quo, h0, h1, hn, h23, hs, hsl, ht4]))
    | (refine guardK_not (fun h => ?_) (fun h => ?_) <;> (try simp (disch := first | omega | (simp only [List.length_take, List.length_drop, List.length_append, List.length_cons, List.length_nil, List.length_map]; omega)) [h, IntWalk.i64_in, IntWalk.i64_quo, h0, h1, hn, h23, hs, hsl, ht4]))
    | (refine guardK_split (fun h => ?_) (fun h => ?_) <;> (try simp (disch := first | omega | (simp only [List.length_take, List.length_drop, List.length_append, List.length_cons, List.length_nil, List.length_map]; omega)) [h, IntWalk.i64_in, IntWalk.i64_quo, h0, h1, hn, h23, hs, hsl, ht4]))
    | (refine condK_ndec (fun h => ?_) (fun h => ?_) <;> (try simp (disch := first | omega | (simp only [List.length_take, List.length_drop, List.length_append, List.length_cons, List.length_nil, List.length_map]; omega)) [h, IntWalk.i64_in, IntWalk.i64_quo, h0, h1, hn, h23, hs, hsl, ht4]))
    | (refine condK_dec (fun h => ?_) (fun h => ?_) <;> (try simp (disch := first | omega | (simp only [List.length_take, List.length_drop, List.length_append, List.length_cons, List.length_nil, List.length_map]; omega)) [h, IntWalk.i64_in, IntWalk.i64_quo, h0, h1, hn, h23, hs, hsl, ht4]))
    | (refine condK_nbeq (fun h => ?_) (fun h => ?_) <;> (try simp (disch := first | omega | (simp only [List.length_take, List.length_drop, List.length_append, List.length_cons, List.length_nil, List.length_map]; omega)) [h, IntWalk.i64_in, IntWalk.i64_quo, h0, h1, hn, h23, hs, hsl, ht4]))
    | (refine condK_beq (fun h => ?_) (fun h => ?_) <;> (try simp (disch := first | omega | (simp only [List.length_take, List.length_drop, List.length_append, List.length_cons, List.length_nil, List.length_map]; omega)) [h, IntWalk.i64_in, IntWalk.i64_quo, h0, h1, hn, h23, hs, hsl, ht4]))
    | (refine condK_bne (fun h => ?_) (fun h => ?_) <;> (try simp (disch := first | omega | (simp only [List.length_take, List.length_drop, List.length_append, List.length_cons, List.length_nil, List.length_map]; omega)) [h, IntWalk.i64_in, IntWalk.i64_quo, h0, h1, hn, h23, hs, hsl, ht4]))
    | (refine condK_not (fun h => ?_) (fun h => ?_) <;> (try simp (disch := first | omega | (simp only [List.length_take, List.length_drop, List.length_append, List.length_cons, List.length_nil, List.length_map]; omega)) [h, IntWalk.i64_in, IntWalk.i64_quo, h0, h1, hn, h23, hs, hsl, ht4]))
    | (refine condK_split (fun h => ?_) (fun h => ?_) <;> (try simp (disch := first | omega | (simp only [List.length_take, List.length_drop, List.length_append, List.length_cons, List.length_nil, List.length_map]; omega)) [h, IntWalk.i64_in, IntWalk.i64_quo, h0, h1, hn, h23, hs, hsl, ht4]))
  · rw [hA, if_pos h]
  · rw [hA, if_neg h]

noncomputable def P4 : Orc := P3.add 26 (tab (fun x : List UInt8 => [.sl .any (ofBytes x)]) openA fun x => x.length ≤ 1048576)
theorem P4s : OSound Try.prog P4 := P3s.tab fun x h st => open_spec x h st
theorem P4_26 (l : List UInt8) (h : l.length ≤ 1048576) : P4 26 [.sl .any (ofBytes l)] = some (openA l) := by
  rw [P4, Orc.add_same]
  exact tab_eq (fun x y h => by simp at h; rw [h]) (x := l) h

/-- A number out of bytes, the lowest first. -/
def num : List UInt8 → Nat
  | [] => 0
  | b :: l => b.toNat + 256 * num l

theorem num_append (a b : List UInt8) : num (a ++ b) = num a + 256 ^ a.length * num b := by
  induction a with
  | nil => simp [num]
  | cons x a ih =>
    simp only [List.cons_append, num, ih, List.length_cons, Nat.pow_succ]
    rw [Nat.mul_add, ← Nat.mul_assoc, Nat.mul_comm 256 (256 ^ a.length)]
    omega
theorem num_lt (a : List UInt8) : num a < 256 ^ a.length := by
  induction a with
  | nil => simp [num]
  | cons x a ih =>
    have := x.toNat_lt
    simp only [num, List.length_cons, Nat.pow_succ]
    omega

theorem or_i64 (a b : Nat) (ha : a < 2 ^ 63) (hb : b < 2 ^ 63) : intBin .or .i64 a b = some (.int .i64 (a ||| b : Nat)) := by
  show some (AV.int .i64 (IntKind.i64.wrap (((BitVec.ofInt 64 a ||| BitVec.ofInt 64 b).toNat : Nat) : Int))) = _
  have h := Nat.or_lt_two_pow ha hb
  rw [BitVec.ofInt_natCast, BitVec.ofInt_natCast, BitVec.toNat_or, BitVec.toNat_ofNat, BitVec.toNat_ofNat, Nat.mod_eq_of_lt (by omega), Nat.mod_eq_of_lt (by omega), IntWalk.i64_in _ (by omega)]
theorem shl_i64 (x y : Nat) (hy : y ≤ 64) (h : x * 2 ^ y < 2 ^ 63) : shiftBin .shl .i64 x y = some (.int .i64 (x * 2 ^ y : Nat)) := by
  rw [shiftBin, if_neg (by omega)]
  show some (AV.int .i64 (IntKind.i64.wrap ((x : Int) * 2 ^ (min (y : Int).toNat 64)))) = _
  rw [show min (y : Int).toNat 64 = y by omega]
  have : (x : Int) * 2 ^ y = ((x * 2 ^ y : Nat) : Int) := by simp
  rw [this, IntWalk.i64_in _ (by omega)]

def getA (l : List UInt8) (at_ w : Int) : AV :=
  if w < 1 ∨ 6 < w then .tup [.int .i64 0, .int .i64 2]
  else if at_ < 0 ∨ (l.length : Int) < w ∨ (l.length : Int) - w < at_ then .tup [.int .i64 0, .int .i64 40]
  else .tup [.int .i64 (num ((l.drop at_.toNat).take w.toNat)), .int .i64 0]

theorem get_spec (l : List UInt8) (at_ w : Int) (hl : l.length ≤ 1048576) (st : St) : ASpec Try.prog 27 [.sl .any (ofBytes l), .int .i64 at_, .int .i64 w] st fun v st' => v = getA l at_ w ∧ st' = st := by
  refine pure_of (R := fun v => v = _) P4s F27 rfl ?_
  simp (disch := first | omega | (simp only [List.length_take, List.length_drop, List.length_append, List.length_cons, List.length_nil, List.length_map]; omega)) [IntWalk.i64_in, IntWalk.i64_quo, c27]
  repeat' first
    | (refine region_static rfl (by decide +kernel) ?_; try simp (disch := first | omega | (simp only [List.length_take, List.length_drop, List.length_append, List.length_cons, List.length_nil, List.length_map]; omega)) [IntWalk.i64_in, IntWalk.i64_quo])
    | (refine And.intro (by omega) ?_; try simp (disch := first | omega | (simp only [List.length_take, List.length_drop, List.length_append, List.length_cons, List.length_nil, List.length_map]; omega)) [IntWalk.i64_in, IntWalk.i64_quo])
    | (refine guardK_ndec (fun h => ?_) (fun h => ?_) <;> (try simp (disch := first | omega | (simp only [List.length_take, List.length_drop, List.length_append, List.length_cons, List.length_nil, List.length_map]; omega)) [h, IntWalk.i64_in, IntWalk.i64_quo]))
    | (refine guardK_dec (fun h => ?_) (fun h => ?_) <;> (try simp (disch := first | omega | (simp only [List.length_take, List.length_drop, List.length_append, List.length_cons, List.length_nil, List.length_map]; omega)) [h, IntWalk.i64_in, IntWalk.i64_quo]))
    | (refine guardK_nbeq (fun h => ?_) (fun h => ?_) <;> (try simp (disch := first | omega | (simp only [List.length_take, List.length_drop, List.length_append, List.length_cons, List.length_nil, List.length_map]; omega)) [h, IntWalk.i64_in, IntWalk.i64_quo]))
    | (refine guardK_beq (fun h => ?_) (fun h => ?_) <;> (try simp (disch := first | omega | (simp only [List.length_take, List.length_drop, List.length_append, List.length_cons, List.length_nil, List.length_map]; omega)) [h, IntWalk.i64_in, IntWalk.i64_quo]))
    | (refine guardK_bne (fun h => ?_) (fun h => ?_) <;> (try simp (disch := first | omega | (simp only [List.length_take, List.length_drop, List.length_append, List.length_cons, List.length_nil, List.length_map]; omega)) [h, IntWalk.i64_in, IntWalk.i64_quo]))
    | (refine guardK_not (fun h => ?_) (fun h => ?_) <;> (try simp (disch := first | omega | (simp only [List.length_take, List.length_drop, List.length_append, List.length_cons, List.length_nil, List.length_map]; omega)) [h, IntWalk.i64_in, IntWalk.i64_quo]))
    | (refine guardK_split (fun h => ?_) (fun h => ?_) <;> (try simp (disch := first | omega | (simp only [List.length_take, List.length_drop, List.length_append, List.length_cons, List.length_nil, List.length_map]; omega)) [h, IntWalk.i64_in, IntWalk.i64_quo]))
    | (refine condK_ndec (fun h => ?_) (fun h => ?_) <;> (try simp (disch := first | omega | (simp only [List.length_take, List.length_drop, List.length_append, List.length_cons, List.length_nil, List.length_map]; omega)) [h, IntWalk.i64_in, IntWalk.i64_quo]))
    | (refine condK_dec (fun h => ?_) (fun h => ?_) <;> (try simp (disch := first | omega | (simp only [List.length_take, List.length_drop, List.length_append, List.length_cons, List.length_nil, List.length_map]; omega)) [h, IntWalk.i64_in, IntWalk.i64_quo]))
    | (refine condK_nbeq (fun h => ?_) (fun h => ?_) <;> (try simp (disch := first | omega | (simp only [List.length_take, List.length_drop, List.length_append, List.length_cons, List.length_nil, List.length_map]; omega)) [h, IntWalk.i64_in, IntWalk.i64_quo]))
    | (refine condK_beq (fun h => ?_) (fun h => ?_) <;> (try simp (disch := first | omega | (simp only [List.length_take, List.length_drop, List.length_append, List.length_cons, List.length_nil, List.length_map]; omega)) [h, IntWalk.i64_in, IntWalk.i64_quo]))
    | (refine condK_bne (fun h => ?_) (fun h => ?_) <;> (try simp (disch := first | omega | (simp only [List.length_take, List.length_drop, List.length_append, List.length_cons, List.length_nil, List.length_map]; omega)) [h, IntWalk.i64_in, IntWalk.i64_quo]))
    | (refine condK_not (fun h => ?_) (fun h => ?_) <;> (try simp (disch := first | omega | (simp only [List.length_take, List.length_drop, List.length_append, List.length_cons, List.length_nil, List.length_map]; omega)) [h, IntWalk.i64_in, IntWalk.i64_quo]))
    | (refine condK_split (fun h => ?_) (fun h => ?_) <;> (try simp (disch := first | omega | (simp only [List.length_take, List.length_drop, List.length_append, List.length_cons, List.length_nil, List.length_map]; omega)) [h, IntWalk.i64_in, IntWalk.i64_quo]))
  all_goals try (rw [getA, if_pos (by omega)]; done)
  all_goals try (rw [getA, if_neg (by omega), if_pos (by omega)]; done)
  rename_i h2 h3 h4 h5
  obtain ⟨at', rfl⟩ : ∃ n : Nat, at_ = n := ⟨at_.toNat, by omega⟩
  obtain ⟨w', rfl⟩ : ∃ n : Nat, w = n := ⟨w.toNat, by omega⟩
  refine awC_loop (fun k env s => ∃ i, k + i = w' ∧ env 0 = .sl .any (ofBytes l) ∧ env 1 = .int .i64 at' ∧ env 6 = .int .i64 (num ((l.drop at').take i)) ∧ env 33 = .int .i64 w' ∧ env 34 = .int .i64 i ∧ s = st) w' ?_ ?_
  · exact ⟨0, by simp [num]⟩
  rintro k env s ⟨i, hk, e0, e1, e6, e33, e34, rfl⟩
  by_cases hi : i < w'
  · have hi' : (i : Int) < w' := by omega
    have hat : at' + i < l.length := by omega
    have hb := (l[at' + i]).toNat_lt
    have hp : 256 ^ i ≤ 256 ^ 5 := Nat.pow_le_pow_right (by decide) (by omega)
    have hlen : ((l.drop at').take i).length = i := by simp; omega
    have hnum := num_lt ((l.drop at').take i)
    rw [hlen] at hnum
    have hpw : 2 ^ (8 * i) = 256 ^ i := by rw [Nat.pow_mul]
    have hmul : (l[at' + i]).toNat * 256 ^ i < 2 ^ 63 := by
      calc (l[at' + i]).toNat * 256 ^ i ≤ 255 * 256 ^ 5 := Nat.mul_le_mul (by omega) hp
        _ < 2 ^ 63 := by decide
    have s1 : shiftBin .shl .i64 ((l[at' + i]).toNat : Int) (8 * (i : Int)) = some (.int .i64 ((l[at' + i]).toNat * 256 ^ i : Nat)) := by
      have := shl_i64 (l[at' + i]).toNat (8 * i) (by omega) (by rw [hpw]; exact hmul)
      rw [hpw] at this
      exact this
    have s2 : intBin .or .i64 (num ((l.drop at').take i) : Int) ((l[at' + i]).toNat * 256 ^ i : Int) = some (.int .i64 (num ((l.drop at').take (i + 1)) : Nat)) := by
      have hcast : ((l[at' + i]).toNat * 256 ^ i : Int) = (((l[at' + i]).toNat * 256 ^ i : Nat) : Int) := by simp
      rw [hcast]
      rw [or_i64 _ _ (by omega) hmul, List.take_succ_eq_append_getElem (by simp; omega), num_append, hlen]
      have h := Nat.two_pow_add_eq_or_of_lt (b := num ((l.drop at').take i)) (i := 8 * i) (by rw [hpw]; exact hnum) (l[at' + i]).toNat
      rw [hpw] at h
      congr 3
      rw [Nat.or_comm, Nat.mul_comm, ← h]
      simp [num]
      omega
    have hti : ((at' : Int) + i).toNat = at' + i := by omega
    have hgi : (ofBytes l)[((at' : Int) + i).toNat]? = some (u8 l[at' + i]) := by rw [hti, ofBytes_get, List.getElem?_eq_getElem hat]; rfl
    have h0i : 0 ≤ (at' : Int) + i := by omega
    simp (disch := first | omega | (simp only [List.length_take, List.length_drop, List.length_append, List.length_cons, List.length_nil, List.length_map]; omega)) [IntWalk.i64_in, IntWalk.i64_quo, e0, e1, e6, e33, e34, hi, hi', hat, hgi, h0i, s1, s2]
    refine ⟨k - 1, by omega, [0, 1, 6, 33, 34], _, .pop (by simp) (by simp) (by simp [e0, e1, e33]), i + 1, by omega, ?_⟩
    simp [e0, e1, e33]
  · have hi' : ¬ (i : Int) < w' := by omega
    have hiw : i = w' := by omega
    simp (disch := first | omega | (simp only [List.length_take, List.length_drop, List.length_append, List.length_cons, List.length_nil, List.length_map]; omega)) [IntWalk.i64_in, IntWalk.i64_quo, e0, e1, e6, e33, e34, hi, hi']
    rw [getA, if_neg (by omega), if_neg (by omega), hiw]
    rfl

noncomputable def P5 : Orc := P4.add 27 (tab (fun x : List UInt8 × Int × Int => [.sl .any (ofBytes x.1), .int .i64 x.2.1, .int .i64 x.2.2]) (fun x => getA x.1 x.2.1 x.2.2) fun x => x.1.length ≤ 1048576)
theorem P5s : OSound Try.prog P5 := P4s.tab fun x h st => get_spec x.1 x.2.1 x.2.2 h st
theorem P5_27 (l : List UInt8) (n w : Int) (h : l.length ≤ 1048576) : P5 27 [.sl .any (ofBytes l), .int .i64 n, .int .i64 w] = some (getA l n w) := by
  rw [P5, Orc.add_same]
  exact tab_eq (fun x y h => by simp at h; rw [h.1, h.2.1, h.2.2]) (x := (l, n, w)) h
end Go.Proofs.Ytghodhkcjjjjnaa

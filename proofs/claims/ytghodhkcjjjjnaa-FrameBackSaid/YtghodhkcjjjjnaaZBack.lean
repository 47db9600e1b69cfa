/- frame.Bytes, frame.Read: what they hand back. -/
import Derived.Test.YtghodhkcjjjjnaaZPack
set_option linter.all false
namespace Go.Proofs.Ytghodhkcjjjjnaa
open Go.Am

theorem P5_11 (f : Fr) : P5 11 [.agg [.int .i64 f.seq, .int .i64 f.inc, .int .i64 f.part, .int .i64 f.of, u32 f.mark, .sl .any (ofBytes f.load)]] = some (.bool (may f)) := by
  rw [P5, Orc.add_other _ _ _ _ _ (by decide), P4, Orc.add_other _ _ _ _ _ (by decide), P3, Orc.add_other _ _ _ _ _ (by decide), P2, Orc.add_other _ _ _ _ _ (by decide), P1, Orc.add_other _ _ _ _ _ (by decide)]
  exact O9_11 f
theorem P5_22 (l : List UInt8) (n w : Int) (h : l.length ≤ 1048576) : P5 22 [.sl .any (ofBytes l), .int .i64 n, .int .i64 w] = some (putA l n w) := by
  rw [P5, Orc.add_other _ _ _ _ _ (by decide), P4, Orc.add_other _ _ _ _ _ (by decide), P3, Orc.add_other _ _ _ _ _ (by decide)]
  exact P2_22 l n w h
theorem P5_23 (l : List UInt8) (h : l.length ≤ 1048576) : P5 23 [.sl .any (ofBytes l)] = some (.sl .any (ofBytes (seal_ l))) := by
  rw [P5, Orc.add_other _ _ _ _ _ (by decide), P4, Orc.add_other _ _ _ _ _ (by decide)]
  exact P3_23 l h

theorem may_all {f : Fr} (h : may f = true) : 1 ≤ f.seq ∧ f.seq ≤ 1099511627776 ∧ 0 ≤ f.inc ∧ f.inc ≤ 1048576 ∧ 1 ≤ f.of ∧ f.of ≤ 2 ∧ 0 ≤ f.part ∧ f.part < f.of ∧ 1 ≤ f.load.length ∧ f.load.length ≤ 45 := by
  unfold may at h
  simp only [decide_eq_true_eq] at h
  obtain ⟨h1, h2, h3, h4, h5, h6, h7, h8, h9⟩ := h
  refine ⟨h1, h2, h3, h4, h5, h6, h7, h8, ?_⟩
  split at h9 <;> omega
theorem fits_of {n w m : Int} (h1 : 1 ≤ w) (h2 : w ≤ 6) (h3 : 0 ≤ n) (hm : 2 ^ (8 * w).toNat = m) (h4 : n < m) : fits n w = true := by
  unfold fits
  rw [decide_eq_true_eq]
  exact ⟨h1, h2, h3, Int.ediv_eq_zero_of_lt h3 (by omega)⟩

/-- A frame's bytes ahead of the sum. -/
def hb (f : Fr) : Nat → List UInt8
  | 0 => []
  | 1 => le 6 f.seq
  | 2 => le 6 f.seq ++ le 3 f.inc
  | 3 => le 6 f.seq ++ le 3 f.inc ++ le 1 (16 * f.part + f.of)
  | 4 => le 6 f.seq ++ le 3 f.inc ++ le 1 (16 * f.part + f.of) ++ le 1 f.load.length
  | _ => le 6 f.seq ++ le 3 f.inc ++ le 1 (16 * f.part + f.of) ++ le 1 f.load.length ++ le 4 f.mark.toNat
def bt : Nat → Tok
  | 0 => .clip
  | _ => .any
def headB (f : Fr) : List UInt8 := hb f 5
theorem put5 {l : List UInt8} {n w : Int} (h : l.length ≤ 1048576) (hf : fits n w = true) : P5 22 [.sl .any (ofBytes l), .int .i64 n, .int .i64 w] = some (.tup [.sl .any (ofBytes (l ++ le w.toNat n)), .int .i64 0]) := by
  rw [P5_22 l n w h, putA, if_pos hf]
theorem hb5_len (f : Fr) : (hb f 5).length = 15 := by simp [hb]
def bodyB (f : Fr) : List UInt8 := headB f ++ f.load ++ z8 (45 - f.load.length)
def bytesA (f : Fr) : AV := if may f = true then .tup [.sl .any (ofBytes (seal_ (bodyB f))), .int .i64 0] else .tup [.sl .any [], .int .i64 2]

theorem bodyB_length {f : Fr} (h : f.load.length ≤ 45) : (bodyB f).length = 60 := by
  have h1 := hb5_len f
  simp [bodyB, headB, h1]
  omega
theorem body_over {f : Fr} (h : f.load.length ≤ 45) : overB (overB (z8 60) 0 (hb f 5)) 15 f.load = bodyB f := by
  have h1 := hb5_len f
  rw [overB_eq _ _ _ (by simp; omega), overB_eq _ _ _ (by simp [h1]), h1]
  simp only [List.take_zero, List.nil_append, bodyB, headB]
  rw [List.take_append_of_le_length (by omega), List.take_of_length_le (by omega), List.drop_append, List.drop_of_length_le (by omega)]
  have hd : ∀ a b, (z8 a).drop b = z8 (a - b) := fun a b => by unfold z8; exact List.drop_replicate
  simp [h1, hd]
theorem bytes_spec (f : Fr) (st : St) : ASpec Try.prog 13 [frA f] st fun v st' => v = bytesA f ∧ st' = st := by
  refine pure_of (R := fun v => v = _) P5s F13 rfl ?_
  by_cases hm : may f = true
  case neg =>
    simp (disch := first | omega | (simp only [List.length_take, List.length_drop, List.length_append, List.length_cons, List.length_nil, List.length_map]; omega)) [IntWalk.i64_in, IntWalk.i64_quo, c13, P5_11, hm, bytesA]
  have hmay := may_all hm
  have hmk := f.mark.isLt
  have g0 := put5 (l := []) (n := f.seq) (w := 6) (by simp) (fits_of (m := 281474976710656) (by decide) (by decide) (by omega) (by decide +kernel) (by omega))
  have g1 := put5 (l := hb f 1) (n := f.inc) (w := 3) (by simp [hb]) (fits_of (m := 16777216) (by decide) (by decide) (by omega) (by decide +kernel) (by omega))
  have g2 := put5 (l := hb f 2) (n := 16 * f.part + f.of) (w := 1) (by simp [hb]) (fits_of (m := 256) (by decide) (by decide) (by omega) (by decide +kernel) (by omega))
  have g3 := put5 (l := hb f 3) (n := f.load.length) (w := 1) (by simp [hb]) (fits_of (m := 256) (by decide) (by decide) (by omega) (by decide +kernel) (by omega))
  have g4 := put5 (l := hb f 4) (n := f.mark.toNat) (w := 4) (by simp [hb]) (fits_of (m := 4294967296) (by decide) (by decide) (by omega) (by decide +kernel) (by omega))
  have q0 : ([] : List UInt8) ++ le (6 : Int).toNat f.seq = hb f 1 := rfl
  have q1 : hb f 1 ++ le (3 : Int).toNat f.inc = hb f 2 := rfl
  have q2 : hb f 2 ++ le (1 : Int).toNat (16 * f.part + f.of) = hb f 3 := rfl
  have q3 : hb f 3 ++ le (1 : Int).toNat f.load.length = hb f 4 := rfl
  have q4 : hb f 4 ++ le (4 : Int).toNat f.mark.toNat = hb f 5 := rfl
  rw [q0] at g0
  rw [q1] at g1
  rw [q2] at g2
  rw [q3] at g3
  rw [q4] at g4
  simp only [ofBytes_nil] at g0
  simp (disch := first | omega | (simp only [List.length_take, List.length_drop, List.length_append, List.length_cons, List.length_nil, List.length_map]; omega)) [IntWalk.i64_in, IntWalk.i64_quo, c13, P5_11, hm, bytesA]
  refine awC_loop (fun k env s => ∃ i, k + i = 5 ∧ env 1 = .ptr st.heap.length 0 ∧ env 4 = .sl (bt i) (ofBytes (hb f i)) ∧ env 32 = .agg [.int .i64 f.seq, .int .i64 6, .int .i64 f.inc, .int .i64 3, .int .i64 (16 * f.part + f.of), .int .i64 1, .int .i64 f.load.length, .int .i64 1, .int .i64 f.mark.toNat, .int .i64 4] ∧ env 33 = .int .i64 i ∧ s = ⟨st.heap ++ [.cells false [.int .i64 f.seq, .int .i64 f.inc, .int .i64 f.part, .int .i64 f.of, u32 f.mark, .sl .any (ofBytes f.load)]], st.toks⟩) 5 ?_ ?_
  · exact ⟨0, by simp [hb, bt]⟩
  rintro k env s ⟨i, hk, e1, e4, e32, e33, rfl⟩
  by_cases hi : i < 5
  · have hi' : (i : Int) < 5 := by omega
    have hcase : i = 0 ∨ i = 1 ∨ i = 2 ∨ i = 3 ∨ i = 4 := by omega
    rcases hcase with rfl | rfl | rfl | rfl | rfl
    · simp [hb, bt] at e4 e33
      simp (disch := first | omega | (simp only [List.length_take, List.length_drop, List.length_append, List.length_cons, List.length_nil, List.length_map]; omega)) [IntWalk.i64_in, IntWalk.i64_quo, e1, e4, e32, e33, g0]
      refine ⟨k - 1, by omega, [1, 4, 32, 33], _, .pop (by simp) (by simp) (by simp [e1, e32]), 1, by omega, ?_⟩
      simp [e1, e32, bt]
    · simp [bt] at e4 e33
      simp (disch := first | omega | (simp only [List.length_take, List.length_drop, List.length_append, List.length_cons, List.length_nil, List.length_map]; omega)) [IntWalk.i64_in, IntWalk.i64_quo, e1, e4, e32, e33, g1]
      refine ⟨k - 1, by omega, [1, 4, 32, 33], _, .pop (by simp) (by simp) (by simp [e1, e32]), 2, by omega, ?_⟩
      simp [e1, e32, bt]
    · simp [bt] at e4 e33
      simp (disch := first | omega | (simp only [List.length_take, List.length_drop, List.length_append, List.length_cons, List.length_nil, List.length_map]; omega)) [IntWalk.i64_in, IntWalk.i64_quo, e1, e4, e32, e33, g2]
      refine ⟨k - 1, by omega, [1, 4, 32, 33], _, .pop (by simp) (by simp) (by simp [e1, e32]), 3, by omega, ?_⟩
      simp [e1, e32, bt]
    · simp [bt] at e4 e33
      simp (disch := first | omega | (simp only [List.length_take, List.length_drop, List.length_append, List.length_cons, List.length_nil, List.length_map]; omega)) [IntWalk.i64_in, IntWalk.i64_quo, e1, e4, e32, e33, g3]
      refine ⟨k - 1, by omega, [1, 4, 32, 33], _, .pop (by simp) (by simp) (by simp [e1, e32]), 4, by omega, ?_⟩
      simp [e1, e32, bt]
    · simp [bt] at e4 e33
      simp (disch := first | omega | (simp only [List.length_take, List.length_drop, List.length_append, List.length_cons, List.length_nil, List.length_map]; omega)) [IntWalk.i64_in, IntWalk.i64_quo, e1, e4, e32, e33, g4]
      refine ⟨k - 1, by omega, [1, 4, 32, 33], _, .pop (by simp) (by simp) (by simp [e1, e32]), 5, by omega, ?_⟩
      simp [e1, e32, bt]
  · have hi' : ¬ (i : Int) < 5 := by omega
    have : i = 5 := by omega
    subst this
    simp [bt] at e4 e33
    have t1 : min (hb f 5).length 60 = 15 := by rw [hb5_len]; decide
    have t2 : (hb f 5).take 15 = hb f 5 := List.take_of_length_le (by rw [hb5_len]; decide)
    have hbl := bodyB_length hmay.2.2.2.2.2.2.2.2.2
    have t4 := chunk_none 60 (ofBytes (bodyB f)) (by simp [hbl])
    have t3 : min f.load.length 45 = f.load.length := by omega
    simp (disch := first | omega | (simp only [List.length_take, List.length_drop, List.length_append, List.length_cons, List.length_nil, List.length_map]; omega)) [IntWalk.i64_in, IntWalk.i64_quo, e1, e4, e32, e33, t1, t2]
    repeat' first
      | (refine region_static rfl (by decide +kernel) ?_; try simp (disch := first | omega | (simp only [List.length_take, List.length_drop, List.length_append, List.length_cons, List.length_nil, List.length_map]; omega)) [IntWalk.i64_in, IntWalk.i64_quo, e1, e4, e32, e33, t1, t2, t3, body_over hmay.2.2.2.2.2.2.2.2.2, P5_23, hbl, t4])
      | (refine And.intro (by omega) ?_; try simp (disch := first | omega | (simp only [List.length_take, List.length_drop, List.length_append, List.length_cons, List.length_nil, List.length_map]; omega)) [IntWalk.i64_in, IntWalk.i64_quo, e1, e4, e32, e33, t1, t2, t3, body_over hmay.2.2.2.2.2.2.2.2.2, P5_23, hbl, t4])
      | (refine guardK_ndec (fun h => ?_) (fun h => ?_) <;> (try simp (disch := first | omega | (simp only [List.length_take, List.length_drop, List.length_append, List.length_cons, List.length_nil, List.length_map]; omega)) [h, IntWalk.i64_in, IntWalk.i64_quo, e1, e4, e32, e33, t1, t2, t3, body_over hmay.2.2.2.2.2.2.2.2.2, P5_23, hbl, t4]))
      | (refine guardK_dec (fun h => ?_) (fun h => ?_) <;> (try simp (disch := first | omega | (simp only [List.length_take, List.length_drop, List.length_append, List.length_cons, List.length_nil, List.length_map]; omega)) [h, IntWalk.i64_in, IntWalk.i64_quo, e1, e4, e32, e33, t1, t2, t3, body_over hmay.2.2.2.2.2.2.2.2.2, P5_23, hbl, t4]))
      | (refine guardK_nbeq (fun h => ?_) (fun h => ?_) <;> (try simp (disch := first | omega | (simp only [List.length_take, List.length_drop, List.length_append, List.length_cons, List.length_nil, List.length_map]; omega)) [h, IntWalk.i64_in, IntWalk.i64_quo, e1, e4, e32, e33, t1, t2, t3, body_over hmay.2.2.2.2.2.2.2.2.2, P5_23, hbl, t4]))
      | (refine guardK_beq (fun h => ?_) (fun h => ?_) <;> (try simp (disch := first | omega | (simp only [List.length_take, List.length_drop, List.length_append, List.length_cons, List.length_nil, List.length_map]; omega)) [h, IntWalk.i64_in, IntWalk.i64_quo, e1, e4, e32, e33, t1, t2, t3, body_over hmay.2.2.2.2.2.2.2.2.2, P5_23, hbl, t4]))
      | (refine guardK_bne (fun h => ?_) (fun h => ?_) <;> (try simp (disch := first | omega | (simp only [List.length_take, List.length_drop, List.length_append, List.length_cons, List.length_nil, List.length_map]; omega)) [h, IntWalk.i64_in, IntWalk.i64_quo, e1, e4, e32, e33, t1, t2, t3, body_over hmay.2.2.2.2.2.2.2.2.2, P5_23, hbl, t4]))
      | (refine guardK_not (fun h => ?_) (fun h => ?_) <;> (try simp (disch := first | omega | (simp only [List.length_take, List.length_drop, List.length_append, List.length_cons, List.length_nil, List.length_map]; omega)) [h, IntWalk.i64_in, IntWalk.i64_quo, e1, e4, e32, e33, t1, t2, t3, body_over hmay.2.2.2.2.2.2.2.2.2, P5_23, hbl, t4]))
      | (refine guardK_split (fun h => ?_) (fun h => ?_) <;> (try simp (disch := first | omega | (simp only [List.length_take, List.length_drop, List.length_append, List.length_cons, List.length_nil, List.length_map]; omega)) [h, IntWalk.i64_in, IntWalk.i64_quo, e1, e4, e32, e33, t1, t2, t3, body_over hmay.2.2.2.2.2.2.2.2.2, P5_23, hbl, t4]))
      | (refine condK_ndec (fun h => ?_) (fun h => ?_) <;> (try simp (disch := first | omega | (simp only [List.length_take, List.length_drop, List.length_append, List.length_cons, List.length_nil, List.length_map]; omega)) [h, IntWalk.i64_in, IntWalk.i64_quo, e1, e4, e32, e33, t1, t2, t3, body_over hmay.2.2.2.2.2.2.2.2.2, P5_23, hbl, t4]))
      | (refine condK_dec (fun h => ?_) (fun h => ?_) <;> (try simp (disch := first | omega | (simp only [List.length_take, List.length_drop, List.length_append, List.length_cons, List.length_nil, List.length_map]; omega)) [h, IntWalk.i64_in, IntWalk.i64_quo, e1, e4, e32, e33, t1, t2, t3, body_over hmay.2.2.2.2.2.2.2.2.2, P5_23, hbl, t4]))
      | (refine condK_nbeq (fun h => ?_) (fun h => ?_) <;> (try simp (disch := first | omega | (simp only [List.length_take, List.length_drop, List.length_append, List.length_cons, List.length_nil, List.length_map]; omega)) [h, IntWalk.i64_in, IntWalk.i64_quo, e1, e4, e32, e33, t1, t2, t3, body_over hmay.2.2.2.2.2.2.2.2.2, P5_23, hbl, t4]))
      | (refine condK_beq (fun h => ?_) (fun h => ?_) <;> (try simp (disch := first | omega | (simp only [List.length_take, List.length_drop, List.length_append, List.length_cons, List.length_nil, List.length_map]; omega)) [h, IntWalk.i64_in, IntWalk.i64_quo, e1, e4, e32, e33, t1, t2, t3, body_over hmay.2.2.2.2.2.2.2.2.2, P5_23, hbl, t4]))
      | (refine condK_bne (fun h => ?_) (fun h => ?_) <;> (try simp (disch := first | omega | (simp only [List.length_take, List.length_drop, List.length_append, List.length_cons, List.length_nil, List.length_map]; omega)) [h, IntWalk.i64_in, IntWalk.i64_quo, e1, e4, e32, e33, t1, t2, t3, body_over hmay.2.2.2.2.2.2.2.2.2, P5_23, hbl, t4]))
      | (refine condK_not (fun h => ?_) (fun h => ?_) <;> (try simp (disch := first | omega | (simp only [List.length_take, List.length_drop, List.length_append, List.length_cons, List.length_nil, List.length_map]; omega)) [h, IntWalk.i64_in, IntWalk.i64_quo, e1, e4, e32, e33, t1, t2, t3, body_over hmay.2.2.2.2.2.2.2.2.2, P5_23, hbl, t4]))
      | (refine condK_split (fun h => ?_) (fun h => ?_) <;> (try simp (disch := first | omega | (simp only [List.length_take, List.length_drop, List.length_append, List.length_cons, List.length_nil, List.length_map]; omega)) [h, IntWalk.i64_in, IntWalk.i64_quo, e1, e4, e32, e33, t1, t2, t3, body_over hmay.2.2.2.2.2.2.2.2.2, P5_23, hbl, t4]))

attribute [simp] Fr.mk.injEq
@[simp] theorem fr_eta (f : Fr) : Fr.mk f.seq f.inc f.part f.of f.mark f.load = f := rfl
noncomputable def P6 : Orc := P5.add 13 (tab (fun x : Int × Int × Int × Int × BitVec 32 × List UInt8 => [.agg [.int .i64 x.1, .int .i64 x.2.1, .int .i64 x.2.2.1, .int .i64 x.2.2.2.1, u32 x.2.2.2.2.1, .sl .any (ofBytes x.2.2.2.2.2)]]) (fun x => bytesA ⟨x.1, x.2.1, x.2.2.1, x.2.2.2.1, x.2.2.2.2.1, x.2.2.2.2.2⟩) fun x => True)
theorem P6s : OSound Try.prog P6 := P5s.tab fun x h st => bytes_spec ⟨x.1, x.2.1, x.2.2.1, x.2.2.2.1, x.2.2.2.2.1, x.2.2.2.2.2⟩ st
@[simp] theorem P6_13 (a : Int) (b : Int) (c : Int) (d : Int) (e : BitVec 32) (l : List UInt8) : P6 13 [.agg [.int .i64 a, .int .i64 b, .int .i64 c, .int .i64 d, u32 e, .sl .any (ofBytes l)]] = some (bytesA ⟨a, b, c, d, e, l⟩) := by
  rw [P6, Orc.add_same]
  exact tab_eq (fun x y h => by simp at h; simp [h]) (x := (a, b, c, d, e, l)) trivial
@[simp] theorem P6_o (f : Nat) (args : List AV) (h : f ≠ 13) : P6 f args = P5 f args := by
  rw [P6, Orc.add_other _ _ _ _ _ h]

@[simp] theorem P5_o (f : Nat) (args : List AV) (h : f ≠ 27) : P5 f args = P4 f args := by
  rw [P5, Orc.add_other _ _ _ _ _ h]
@[simp] theorem P4_o (f : Nat) (args : List AV) (h : f ≠ 26) : P4 f args = P3 f args := by
  rw [P4, Orc.add_other _ _ _ _ _ h]
@[simp] theorem P3_o (f : Nat) (args : List AV) (h : f ≠ 23) : P3 f args = P2 f args := by
  rw [P3, Orc.add_other _ _ _ _ _ h]
@[simp] theorem P2_o (f : Nat) (args : List AV) (h : f ≠ 22) : P2 f args = P1 f args := by
  rw [P2, Orc.add_other _ _ _ _ _ h]
@[simp] theorem P1_o (f : Nat) (args : List AV) (h : f ≠ 32) : P1 f args = O9 f args := by
  rw [P1, Orc.add_other _ _ _ _ _ h]
@[simp] theorem O9_o (f : Nat) (args : List AV) (h : f ≠ 7) : O9 f args = O8 f args := by
  rw [O9, Orc.add_other _ _ _ _ _ h]
@[simp] theorem O8_o (f : Nat) (args : List AV) (h : f ≠ 10) : O8 f args = O7 f args := by
  rw [O8, Orc.add_other _ _ _ _ _ h]
@[simp] theorem O7_o (f : Nat) (args : List AV) (h : f ≠ 8) : O7 f args = O6 f args := by
  rw [O7, Orc.add_other _ _ _ _ _ h]
@[simp] theorem O6_o (f : Nat) (args : List AV) (h : f ≠ 11) : O6 f args = O5 f args := by
  rw [O6, Orc.add_other _ _ _ _ _ h]
@[simp] theorem O5_o (f : Nat) (args : List AV) (h : f ≠ 20) : O5 f args = O4 f args := by
  rw [O5, Orc.add_other _ _ _ _ _ h]
attribute [simp] P5_27 P4_26 P3_23 P2_22 P1_32 O9_7 O8_10 O7_8 O5_20
@[simp] theorem O6_11' (a b c d : Int) (e : BitVec 32) (l : List UInt8) : O6 11 [.agg [.int .i64 a, .int .i64 b, .int .i64 c, .int .i64 d, u32 e, .sl .any (ofBytes l)]] = some (.bool (may ⟨a, b, c, d, e, l⟩)) := O6_11 ⟨a, b, c, d, e, l⟩

/-! What is read. -/
def okB (b : List UInt8) : Prop := b.length = 64 ∧ crcB (crc (b.take 60)) = b.drop 60
noncomputable instance (b : List UInt8) : Decidable (okB b) := Classical.propDecidable _
def byt (l : List UInt8) (i : Nat) : Nat := (l.getD i 0).toNat
def pF (l : List UInt8) : Fr := ⟨num (l.take 6), num ((l.drop 6).take 3), (byt l 9 : Int) / 16, (byt l 9 : Int) % 16, BitVec.ofNat 32 (num ((l.drop 11).take 4)), (l.drop 15).take (byt l 10)⟩
def zF : Fr := ⟨0, 0, 0, 0, 0#32, []⟩
noncomputable def readA (b : List UInt8) : AV :=
  if okB b ∧ byt (b.take 60) 10 ≤ 45 ∧ may (pF (b.take 60)) = true ∧ seal_ (bodyB (pF (b.take 60))) = b then .tup [frA (pF (b.take 60)), .int .i64 0] else .tup [frA zF, .int .i64 40]

theorem get_lit {l : List UInt8} (h : l.length = 60) (a w : Nat) (h1 : 1 ≤ w) (h2 : w ≤ 6) (h3 : a + w ≤ 60) : getA l a w = .tup [.int .i64 (num ((l.drop a).take w)), .int .i64 0] := by
  rw [getA, if_neg (by omega), if_neg (by omega)]
  simp

theorem read_spec (b : List UInt8) (hb : b.length ≤ 1048576) (st : St) : ASpec Try.prog 15 [.sl .any (ofBytes b)] st fun v st' => v = readA b ∧ st' = st := by
  refine pure_of (R := fun v => v = _) P6s F15 rfl ?_
  by_cases ho : okB b
  case neg =>
    by_cases h4 : 4 ≤ b.length ∧ crcB (crc (b.take (b.length - 4))) = b.drop (b.length - 4)
    · have hn : ¬ b.length = 64 := fun h => ho ⟨h, by simpa [h] using h4.2⟩
      have hn' : ¬ (b.length : Int) = 64 := by omega
      simp (disch := first | omega | (simp only [List.length_take, List.length_drop, List.length_append, List.length_cons, List.length_nil, List.length_map]; omega)) [IntWalk.i64_in, IntWalk.i64_quo, c15, openA, h4, hn, hn']
      simp [readA, ho, zF]
    · simp (disch := first | omega | (simp only [List.length_take, List.length_drop, List.length_append, List.length_cons, List.length_nil, List.length_map]; omega)) [IntWalk.i64_in, IntWalk.i64_quo, c15, openA, h4]
      simp [readA, ho, zF]
  have hA : openA b = .tup [.sl .any (ofBytes (b.take 60)), .bool true] := by
    rw [openA, if_pos (by rw [ho.1]; exact ⟨by decide, ho.2⟩), ho.1]
  have hlen : b.length = 64 := ho.1
  have hlen' : (b.length : Int) = 64 := by omega
  obtain ⟨l, hl⟩ : ∃ l, l = b.take 60 := ⟨_, rfl⟩
  have hll : l.length = 60 := by rw [hl]; simp; omega
  rw [← hl] at hA
  obtain ⟨n, hx⟩ : ∃ n, l[10]'(by omega) = n := ⟨_, rfl⟩
  obtain ⟨m, hy⟩ : ∃ m, l[9]'(by omega) = m := ⟨_, rfl⟩
  have hbx : byt l 10 = n.toNat := by simp [byt, hll, hx]
  have hby : byt l 9 = m.toNat := by simp [byt, hll, hy]
  have h9 : num ((l.drop 9).take 1) = m.toNat := by
    rw [List.take_one, List.head?_drop, List.getElem?_eq_getElem (by omega), hy]
    simp [num]
  have g0 := get_lit hll 0 6 (by decide) (by decide) (by decide)
  have g1 := get_lit hll 6 3 (by decide) (by decide) (by decide)
  have g2 := get_lit hll 9 1 (by decide) (by decide) (by decide)
  have g3 := get_lit hll 10 1 (by decide) (by decide) (by decide)
  have g4 := get_lit hll 11 4 (by decide) (by decide) (by decide)
  rw [h9] at g2
  simp at g0 g1 g2 g3 g4
  by_cases hn : n.toNat ≤ 45
  case neg =>
    have hn1 : 45 < (n.toNat : Int) := by omega
    simp (disch := first | omega | (simp only [List.length_take, List.length_drop, List.length_append, List.length_cons, List.length_nil, List.length_map]; omega)) [IntWalk.i64_in, IntWalk.i64_quo, c15, hA, hlen, hlen', hll, hx, hn1]
    simp [readA, ← hl, hbx, hn, zF]
  have hn1 : ¬ 45 < (n.toNat : Int) := by omega
  have hm := m.toNat_lt
  have hs1 : shiftBin .shr .i64 (m.toNat : Int) 4 = some (.int .i64 (m.toNat / 16 : Nat)) := shr_nat _ 4 _ rfl (by decide)
  have hs2 : intBin .and .i64 (m.toNat : Int) 15 = some (.int .i64 (m.toNat % 16 : Nat)) := and_low _ 4 _ rfl (by omega) (by decide)
  simp (disch := first | omega | (simp only [List.length_take, List.length_drop, List.length_append, List.length_cons, List.length_nil, List.length_map]; omega)) [IntWalk.i64_in, IntWalk.i64_quo, c15, hA, hlen, hlen', hll, hx, hn1]
  refine awC_loopU 6 ?_
  simp (disch := first | omega | (simp only [List.length_take, List.length_drop, List.length_append, List.length_cons, List.length_nil, List.length_map]; omega)) [IntWalk.i64_in, IntWalk.i64_quo, hA, hlen, hlen', hll, hx, hn1, g0, g1, g2, g3, g4]
  repeat' first
    | (refine region_static rfl (by decide +kernel) ?_; try simp (disch := first | omega | (simp only [List.length_take, List.length_drop, List.length_append, List.length_cons, List.length_nil, List.length_map]; omega)) [IntWalk.i64_in, IntWalk.i64_quo, hA, hlen, hlen', hll, hx, hn1, g0, g1, g2, g3, g4, hs1, hs2])
    | (refine And.intro (by omega) ?_; try simp (disch := first | omega | (simp only [List.length_take, List.length_drop, List.length_append, List.length_cons, List.length_nil, List.length_map]; omega)) [IntWalk.i64_in, IntWalk.i64_quo, hA, hlen, hlen', hll, hx, hn1, g0, g1, g2, g3, g4, hs1, hs2])
    | (refine guardK_ndec (fun h => ?_) (fun h => ?_) <;> (try simp (disch := first | omega | (simp only [List.length_take, List.length_drop, List.length_append, List.length_cons, List.length_nil, List.length_map]; omega)) [h, IntWalk.i64_in, IntWalk.i64_quo, hA, hlen, hlen', hll, hx, hn1, g0, g1, g2, g3, g4, hs1, hs2]))
    | (refine guardK_dec (fun h => ?_) (fun h => ?_) <;> (try simp (disch := first | omega | (simp only [List.length_take, List.length_drop, List.length_append, List.length_cons, List.length_nil, List.length_map]; omega)) [h, IntWalk.i64_in, IntWalk.i64_quo, hA, hlen, hlen', hll, hx, hn1, g0, g1, g2, g3, g4, hs1, hs2]))
    | (refine guardK_nbeq (fun h => ?_) (fun h => ?_) <;> (try simp (disch := first | omega | (simp only [List.length_take, List.length_drop, List.length_append, List.length_cons, List.length_nil, List.length_map]; omega)) [h, IntWalk.i64_in, IntWalk.i64_quo, hA, hlen, hlen', hll, hx, hn1, g0, g1, g2, g3, g4, hs1, hs2]))
    | (refine guardK_beq (fun h => ?_) (fun h => ?_) <;> (try simp (disch := first | omega | (simp only [List.length_take, List.length_drop, List.length_append, List.length_cons, List.length_nil, List.length_map]; omega)) [h, IntWalk.i64_in, IntWalk.i64_quo, hA, hlen, hlen', hll, hx, hn1, g0, g1, g2, g3, g4, hs1, hs2]))
    | (refine guardK_bne (fun h => ?_) (fun h => ?_) <;> (try simp (disch := first | omega | (simp only [List.length_take, List.length_drop, List.length_append, List.length_cons, List.length_nil, List.length_map]; omega)) [h, IntWalk.i64_in, IntWalk.i64_quo, hA, hlen, hlen', hll, hx, hn1, g0, g1, g2, g3, g4, hs1, hs2]))
    | (refine guardK_not (fun h => ?_) (fun h => ?_) <;> (try simp (disch := first | omega | (simp only [List.length_take, List.length_drop, List.length_append, List.length_cons, List.length_nil, List.length_map]; omega)) [h, IntWalk.i64_in, IntWalk.i64_quo, hA, hlen, hlen', hll, hx, hn1, g0, g1, g2, g3, g4, hs1, hs2]))
    | (refine guardK_split (fun h => ?_) (fun h => ?_) <;> (try simp (disch := first | omega | (simp only [List.length_take, List.length_drop, List.length_append, List.length_cons, List.length_nil, List.length_map]; omega)) [h, IntWalk.i64_in, IntWalk.i64_quo, hA, hlen, hlen', hll, hx, hn1, g0, g1, g2, g3, g4, hs1, hs2]))
    | (refine condK_ndec (fun h => ?_) (fun h => ?_) <;> (try simp (disch := first | omega | (simp only [List.length_take, List.length_drop, List.length_append, List.length_cons, List.length_nil, List.length_map]; omega)) [h, IntWalk.i64_in, IntWalk.i64_quo, hA, hlen, hlen', hll, hx, hn1, g0, g1, g2, g3, g4, hs1, hs2]))
    | (refine condK_dec (fun h => ?_) (fun h => ?_) <;> (try simp (disch := first | omega | (simp only [List.length_take, List.length_drop, List.length_append, List.length_cons, List.length_nil, List.length_map]; omega)) [h, IntWalk.i64_in, IntWalk.i64_quo, hA, hlen, hlen', hll, hx, hn1, g0, g1, g2, g3, g4, hs1, hs2]))
    | (refine condK_nbeq (fun h => ?_) (fun h => ?_) <;> (try simp (disch := first | omega | (simp only [List.length_take, List.length_drop, List.length_append, List.length_cons, List.length_nil, List.length_map]; omega)) [h, IntWalk.i64_in, IntWalk.i64_quo, hA, hlen, hlen', hll, hx, hn1, g0, g1, g2, g3, g4, hs1, hs2]))
    | (refine condK_beq (fun h => ?_) (fun h => ?_) <;> (try simp (disch := first | omega | (simp only [List.length_take, List.length_drop, List.length_append, List.length_cons, List.length_nil, List.length_map]; omega)) [h, IntWalk.i64_in, IntWalk.i64_quo, hA, hlen, hlen', hll, hx, hn1, g0, g1, g2, g3, g4, hs1, hs2]))
    | (refine condK_bne (fun h => ?_) (fun h => ?_) <;> (try simp (disch := first | omega | (simp only [List.length_take, List.length_drop, List.length_append, List.length_cons, List.length_nil, List.length_map]; omega)) [h, IntWalk.i64_in, IntWalk.i64_quo, hA, hlen, hlen', hll, hx, hn1, g0, g1, g2, g3, g4, hs1, hs2]))
    | (refine condK_not (fun h => ?_) (fun h => ?_) <;> (try simp (disch := first | omega | (simp only [List.length_take, List.length_drop, List.length_append, List.length_cons, List.length_nil, List.length_map]; omega)) [h, IntWalk.i64_in, IntWalk.i64_quo, hA, hlen, hlen', hll, hx, hn1, g0, g1, g2, g3, g4, hs1, hs2]))
    | (refine condK_split (fun h => ?_) (fun h => ?_) <;> (try simp (disch := first | omega | (simp only [List.length_take, List.length_drop, List.length_append, List.length_cons, List.length_nil, List.length_map]; omega)) [h, IntWalk.i64_in, IntWalk.i64_quo, hA, hlen, hlen', hll, hx, hn1, g0, g1, g2, g3, g4, hs1, hs2]))
  have hq : ((15 : Int) + n.toNat).toNat - 15 = n.toNat := by omega
  have hF : Fr.mk (num (l.take 6)) (num ((l.drop 6).take 3)) ((m.toNat : Int) / 16) ((m.toNat : Int) % 16) (BitVec.ofNat 32 (num ((l.drop 11).take 4))) ((l.drop 15).take n.toNat) = pF l := by
    simp [pF, hbx, hby]
  have hF' : pF l = Fr.mk (num (l.take 6)) (num ((l.drop 6).take 3)) ((m.toNat : Int) / 16) ((m.toNat : Int) % 16) (BitVec.ofNat 32 (num ((l.drop 11).take 4))) ((l.drop 15).take n.toNat) := hF.symm
  have hn2 : (15 : Int) + n.toNat ≤ 60 := by omega
  have hn3 : (15 : Int) + n.toNat ≤ 2147483663 := by omega
  by_cases hM : may (pF l) = true
  · have hB : bytesA (pF l) = .tup [.sl .any (ofBytes (seal_ (bodyB (pF l)))), .int .i64 0] := by rw [bytesA, if_pos hM]
    simp (disch := first | omega | (simp only [List.length_take, List.length_drop, List.length_append, List.length_cons, List.length_nil, List.length_map]; omega)) [IntWalk.i64_in, IntWalk.i64_quo, hq, hF, hB]
    repeat' first
      | (refine region_static rfl (by decide +kernel) ?_; try simp (disch := first | omega | (simp only [List.length_take, List.length_drop, List.length_append, List.length_cons, List.length_nil, List.length_map]; omega)) [IntWalk.i64_in, IntWalk.i64_quo, hq, hF, hB])
      | (refine And.intro (by omega) ?_; try simp (disch := first | omega | (simp only [List.length_take, List.length_drop, List.length_append, List.length_cons, List.length_nil, List.length_map]; omega)) [IntWalk.i64_in, IntWalk.i64_quo, hq, hF, hB])
      | (refine guardK_ndec (fun h => ?_) (fun h => ?_) <;> (try simp (disch := first | omega | (simp only [List.length_take, List.length_drop, List.length_append, List.length_cons, List.length_nil, List.length_map]; omega)) [h, IntWalk.i64_in, IntWalk.i64_quo, hq, hF, hB]))
      | (refine guardK_dec (fun h => ?_) (fun h => ?_) <;> (try simp (disch := first | omega | (simp only [List.length_take, List.length_drop, List.length_append, List.length_cons, List.length_nil, List.length_map]; omega)) [h, IntWalk.i64_in, IntWalk.i64_quo, hq, hF, hB]))
      | (refine guardK_nbeq (fun h => ?_) (fun h => ?_) <;> (try simp (disch := first | omega | (simp only [List.length_take, List.length_drop, List.length_append, List.length_cons, List.length_nil, List.length_map]; omega)) [h, IntWalk.i64_in, IntWalk.i64_quo, hq, hF, hB]))
      | (refine guardK_beq (fun h => ?_) (fun h => ?_) <;> (try simp (disch := first | omega | (simp only [List.length_take, List.length_drop, List.length_append, List.length_cons, List.length_nil, List.length_map]; omega)) [h, IntWalk.i64_in, IntWalk.i64_quo, hq, hF, hB]))
      | (refine guardK_bne (fun h => ?_) (fun h => ?_) <;> (try simp (disch := first | omega | (simp only [List.length_take, List.length_drop, List.length_append, List.length_cons, List.length_nil, List.length_map]; omega)) [h, IntWalk.i64_in, IntWalk.i64_quo, hq, hF, hB]))
      | (refine guardK_not (fun h => ?_) (fun h => ?_) <;> (try simp (disch := first | omega | (simp only [List.length_take, List.length_drop, List.length_append, List.length_cons, List.length_nil, List.length_map]; omega)) [h, IntWalk.i64_in, IntWalk.i64_quo, hq, hF, hB]))
      | (refine guardK_split (fun h => ?_) (fun h => ?_) <;> (try simp (disch := first | omega | (simp only [List.length_take, List.length_drop, List.length_append, List.length_cons, List.length_nil, List.length_map]; omega)) [h, IntWalk.i64_in, IntWalk.i64_quo, hq, hF, hB]))
      | (refine condK_ndec (fun h => ?_) (fun h => ?_) <;> (try simp (disch := first | omega | (simp only [List.length_take, List.length_drop, List.length_append, List.length_cons, List.length_nil, List.length_map]; omega)) [h, IntWalk.i64_in, IntWalk.i64_quo, hq, hF, hB]))
      | (refine condK_dec (fun h => ?_) (fun h => ?_) <;> (try simp (disch := first | omega | (simp only [List.length_take, List.length_drop, List.length_append, List.length_cons, List.length_nil, List.length_map]; omega)) [h, IntWalk.i64_in, IntWalk.i64_quo, hq, hF, hB]))
      | (refine condK_nbeq (fun h => ?_) (fun h => ?_) <;> (try simp (disch := first | omega | (simp only [List.length_take, List.length_drop, List.length_append, List.length_cons, List.length_nil, List.length_map]; omega)) [h, IntWalk.i64_in, IntWalk.i64_quo, hq, hF, hB]))
      | (refine condK_beq (fun h => ?_) (fun h => ?_) <;> (try simp (disch := first | omega | (simp only [List.length_take, List.length_drop, List.length_append, List.length_cons, List.length_nil, List.length_map]; omega)) [h, IntWalk.i64_in, IntWalk.i64_quo, hq, hF, hB]))
      | (refine condK_bne (fun h => ?_) (fun h => ?_) <;> (try simp (disch := first | omega | (simp only [List.length_take, List.length_drop, List.length_append, List.length_cons, List.length_nil, List.length_map]; omega)) [h, IntWalk.i64_in, IntWalk.i64_quo, hq, hF, hB]))
      | (refine condK_not (fun h => ?_) (fun h => ?_) <;> (try simp (disch := first | omega | (simp only [List.length_take, List.length_drop, List.length_append, List.length_cons, List.length_nil, List.length_map]; omega)) [h, IntWalk.i64_in, IntWalk.i64_quo, hq, hF, hB]))
      | (refine condK_split (fun h => ?_) (fun h => ?_) <;> (try simp (disch := first | omega | (simp only [List.length_take, List.length_drop, List.length_append, List.length_cons, List.length_nil, List.length_map]; omega)) [h, IntWalk.i64_in, IntWalk.i64_quo, hq, hF, hB]))
    · rw [readA, if_pos (by rw [← hl, hbx]; exact ⟨ho, hn, hM, by assumption⟩), ← hl, hF']
      simp
    · rw [readA, if_neg (by rw [← hl]; exact fun h => absurd h.2.2.2 (by assumption))]
      simp [zF]
  · have hB : bytesA (pF l) = .tup [.sl .any [], .int .i64 2] := by rw [bytesA, if_neg hM]
    simp (disch := first | omega | (simp only [List.length_take, List.length_drop, List.length_append, List.length_cons, List.length_nil, List.length_map]; omega)) [IntWalk.i64_in, IntWalk.i64_quo, hq, hF, hB]
    rw [readA, if_neg (by rw [← hl]; exact fun h => hM h.2.2.1)]
    simp [zF]

end Go.Proofs.Ytghodhkcjjjjnaa

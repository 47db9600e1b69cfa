/- Messages: the reference's reader. -/
import Derived.Test.YtjceilhmgbdgiaaZT
set_option linter.all false
namespace Go.Proofs.Ytjceilhmgbdgiaa
open Go.Am

def rd1 : RS → Int × RS
  | ([], _) => (0, ([], true))
  | (x :: t, bad) => (x.toNat, (t, bad))
theorem rd1_bound (s : RS) : 0 ≤ (rd1 s).1 ∧ (rd1 s).1 ≤ 255 := by
  obtain ⟨l, bad⟩ := s
  cases l with
  | nil => simp [rd1]
  | cons x t => have := x.toNat_lt; simp [rd1]; omega
theorem rd1_suf {b : List UInt8} {s : RS} (h : s.1 <:+ b) : (rd1 s).2.1 <:+ b := by
  obtain ⟨l, bad⟩ := s
  cases l with
  | nil => exact h
  | cons x t => exact (List.suffix_cons x t).trans h
/-- The reference's reader. -/
def refB (b : List UInt8) (s : RS) : Blk := .cells false [.sl .any (ofBytes b), .int .i64 ((b.length - s.1.length : Nat) : Int), .bool s.2]
theorem rbyte_spec {b : List UInt8} {s : RS} {l : Nat} {st : St} (hs : s.1 <:+ b) (hb : b.length ≤ 1000000) (hl : st.heap[l]? = some (refB b s)) : ASpec Try.prog 148 [.ptr l 0] st fun v st' => v = .int .i64 (rd1 s).1 ∧ st' = ⟨st.heap.set l (refB b (rd1 s).2), st.toks⟩ := by
  refine raw_of T12s F148 rfl ?_
  obtain ⟨p, hp⟩ := hs
  obtain ⟨r, bad⟩ := s
  simp only at hp
  subst hp
  have hset : ∀ v, (st.heap.set l v)[l]? = some v := fun v => List.getElem?_set_self (List.getElem?_eq_some_iff.1 hl).1
  cases r with
  | nil =>
    simp only [refB, List.append_nil, List.length_nil, Nat.sub_zero] at hl
    simp (disch := first | omega | (simp only [LL]; omega)) [WW, c148, hl, hset]
    repeat' first
      | (refine region_static rfl (by decide +kernel) ?_; try simp (disch := first | omega | (simp only [LL]; omega)) [WW, hl, hset])
      | (refine And.intro (by omega) ?_; try simp (disch := first | omega | (simp only [LL]; omega)) [WW, hl, hset])
      | (refine guardK_ndec (fun h => ?_) (fun h => ?_) <;> (try simp (disch := first | omega | (simp only [LL]; omega)) [h, WW, hl, hset]))
      | (refine guardK_dec (fun h => ?_) (fun h => ?_) <;> (try simp (disch := first | omega | (simp only [LL]; omega)) [h, WW, hl, hset]))
      | (refine guardK_nbeq (fun h => ?_) (fun h => ?_) <;> (try simp (disch := first | omega | (simp only [LL]; omega)) [h, WW, hl, hset]))
      | (refine guardK_beq (fun h => ?_) (fun h => ?_) <;> (try simp (disch := first | omega | (simp only [LL]; omega)) [h, WW, hl, hset]))
      | (refine guardK_bne (fun h => ?_) (fun h => ?_) <;> (try simp (disch := first | omega | (simp only [LL]; omega)) [h, WW, hl, hset]))
      | (refine guardK_not (fun h => ?_) (fun h => ?_) <;> (try simp (disch := first | omega | (simp only [LL]; omega)) [h, WW, hl, hset]))
      | (refine guardK_split (fun h => ?_) (fun h => ?_) <;> (try simp (disch := first | omega | (simp only [LL]; omega)) [h, WW, hl, hset]))
      | (refine condK_ndec (fun h => ?_) (fun h => ?_) <;> (try simp (disch := first | omega | (simp only [LL]; omega)) [h, WW, hl, hset]))
      | (refine condK_dec (fun h => ?_) (fun h => ?_) <;> (try simp (disch := first | omega | (simp only [LL]; omega)) [h, WW, hl, hset]))
      | (refine condK_nbeq (fun h => ?_) (fun h => ?_) <;> (try simp (disch := first | omega | (simp only [LL]; omega)) [h, WW, hl, hset]))
      | (refine condK_beq (fun h => ?_) (fun h => ?_) <;> (try simp (disch := first | omega | (simp only [LL]; omega)) [h, WW, hl, hset]))
      | (refine condK_bne (fun h => ?_) (fun h => ?_) <;> (try simp (disch := first | omega | (simp only [LL]; omega)) [h, WW, hl, hset]))
      | (refine condK_not (fun h => ?_) (fun h => ?_) <;> (try simp (disch := first | omega | (simp only [LL]; omega)) [h, WW, hl, hset]))
      | (refine condK_split (fun h => ?_) (fun h => ?_) <;> (try simp (disch := first | omega | (simp only [LL]; omega)) [h, WW, hl, hset]))
    refine .inl ⟨by simp, Nat.le_refl _, rfl, ?_⟩
    simp [refB, rd1]
  | cons x t =>
    simp only [refB] at hl
    rw [show (p ++ x :: t).length - (x :: t).length = p.length by simp] at hl
    have hx : (p ++ x :: t)[p.length]? = some x := by simp
    have h2 : ¬ (p.length : Int) + (t.length + 1) ≤ p.length := by omega
    simp only [List.length_append, List.length_cons] at hb
    simp (disch := first | omega | (simp only [LL]; omega)) [WW, c148, hl, hx, h2, hset]
    repeat' first
      | (refine region_static rfl (by decide +kernel) ?_; try simp (disch := first | omega | (simp only [LL]; omega)) [WW, hl, hx, h2, hset])
      | (refine And.intro (by omega) ?_; try simp (disch := first | omega | (simp only [LL]; omega)) [WW, hl, hx, h2, hset])
      | (refine guardK_ndec (fun h => ?_) (fun h => ?_) <;> (try simp (disch := first | omega | (simp only [LL]; omega)) [h, WW, hl, hx, h2, hset]))
      | (refine guardK_dec (fun h => ?_) (fun h => ?_) <;> (try simp (disch := first | omega | (simp only [LL]; omega)) [h, WW, hl, hx, h2, hset]))
      | (refine guardK_nbeq (fun h => ?_) (fun h => ?_) <;> (try simp (disch := first | omega | (simp only [LL]; omega)) [h, WW, hl, hx, h2, hset]))
      | (refine guardK_beq (fun h => ?_) (fun h => ?_) <;> (try simp (disch := first | omega | (simp only [LL]; omega)) [h, WW, hl, hx, h2, hset]))
      | (refine guardK_bne (fun h => ?_) (fun h => ?_) <;> (try simp (disch := first | omega | (simp only [LL]; omega)) [h, WW, hl, hx, h2, hset]))
      | (refine guardK_not (fun h => ?_) (fun h => ?_) <;> (try simp (disch := first | omega | (simp only [LL]; omega)) [h, WW, hl, hx, h2, hset]))
      | (refine guardK_split (fun h => ?_) (fun h => ?_) <;> (try simp (disch := first | omega | (simp only [LL]; omega)) [h, WW, hl, hx, h2, hset]))
      | (refine condK_ndec (fun h => ?_) (fun h => ?_) <;> (try simp (disch := first | omega | (simp only [LL]; omega)) [h, WW, hl, hx, h2, hset]))
      | (refine condK_dec (fun h => ?_) (fun h => ?_) <;> (try simp (disch := first | omega | (simp only [LL]; omega)) [h, WW, hl, hx, h2, hset]))
      | (refine condK_nbeq (fun h => ?_) (fun h => ?_) <;> (try simp (disch := first | omega | (simp only [LL]; omega)) [h, WW, hl, hx, h2, hset]))
      | (refine condK_beq (fun h => ?_) (fun h => ?_) <;> (try simp (disch := first | omega | (simp only [LL]; omega)) [h, WW, hl, hx, h2, hset]))
      | (refine condK_bne (fun h => ?_) (fun h => ?_) <;> (try simp (disch := first | omega | (simp only [LL]; omega)) [h, WW, hl, hx, h2, hset]))
      | (refine condK_not (fun h => ?_) (fun h => ?_) <;> (try simp (disch := first | omega | (simp only [LL]; omega)) [h, WW, hl, hx, h2, hset]))
      | (refine condK_split (fun h => ?_) (fun h => ?_) <;> (try simp (disch := first | omega | (simp only [LL]; omega)) [h, WW, hl, hx, h2, hset]))
    have e : (p ++ x :: t).length - t.length = p.length + 1 := by simp only [List.length_append, List.length_cons]; omega
    refine .inl ⟨by simp, Nat.le_refl _, rfl, ?_⟩
    simp only [refB, rd1, e]
    simp

def rd3 (s : RS) : Int × RS := ((rd1 s).1 + 256 * (rd1 (rd1 s).2).1 + 65536 * (rd1 (rd1 (rd1 s).2).2).1, (rd1 (rd1 (rd1 s).2).2).2)
theorem rd3_suf {b : List UInt8} {s : RS} (h : s.1 <:+ b) : (rd3 s).2.1 <:+ b := rd1_suf (rd1_suf (rd1_suf h))
theorem rthree_spec {b : List UInt8} {s : RS} {l : Nat} {st : St} (hs : s.1 <:+ b) (hb : b.length ≤ 1000000) (hl : st.heap[l]? = some (refB b s)) : ASpec Try.prog 149 [.ptr l 0] st fun v st' => v = .int .i64 (rd3 s).1 ∧ st' = ⟨st.heap.set l (refB b (rd3 s).2), st.toks⟩ := by
  refine raw_of T12s F149 rfl ?_
  have hll := (List.getElem?_eq_some_iff.1 hl).1
  have b1 := rd1_bound s
  have b2 := rd1_bound (rd1 s).2
  have b3 := rd1_bound (rd1 (rd1 s).2).2
  simp (disch := first | omega | (simp only [LL]; omega)) [WW, c149]
  refine (rbyte_spec hs hb hl).mono ?_
  rintro _ _ ⟨rfl, rfl⟩
  simp (disch := first | omega | (simp only [LL]; omega)) [WW]
  refine (rbyte_spec (rd1_suf hs) hb (by simp [hll])).mono ?_
  rintro _ _ ⟨rfl, rfl⟩
  simp (disch := first | omega | (simp only [LL]; omega)) [WW]
  refine (rbyte_spec (rd1_suf (rd1_suf hs)) hb (by simp [hll])).mono ?_
  rintro _ _ ⟨rfl, rfl⟩
  have s1 := shl_nn (rd1 (rd1 s).2).1 8 8 b2.1 rfl (by decide) (by omega)
  have s2 := shl_nn (rd1 (rd1 (rd1 s).2).2).1 16 16 b3.1 rfl (by decide) (by omega)
  simp (disch := first | omega | (simp only [LL]; omega)) [WW, s1, s2]
  repeat' first
    | (refine region_static rfl (by decide +kernel) ?_; try simp (disch := first | omega | (simp only [LL]; omega)) [WW, s1, s2])
    | (refine And.intro (by omega) ?_; try simp (disch := first | omega | (simp only [LL]; omega)) [WW, s1, s2])
    | (refine guardK_ndec (fun h => ?_) (fun h => ?_) <;> (try simp (disch := first | omega | (simp only [LL]; omega)) [h, WW, s1, s2]))
    | (refine guardK_dec (fun h => ?_) (fun h => ?_) <;> (try simp (disch := first | omega | (simp only [LL]; omega)) [h, WW, s1, s2]))
    | (refine guardK_nbeq (fun h => ?_) (fun h => ?_) <;> (try simp (disch := first | omega | (simp only [LL]; omega)) [h, WW, s1, s2]))
    | (refine guardK_beq (fun h => ?_) (fun h => ?_) <;> (try simp (disch := first | omega | (simp only [LL]; omega)) [h, WW, s1, s2]))
    | (refine guardK_bne (fun h => ?_) (fun h => ?_) <;> (try simp (disch := first | omega | (simp only [LL]; omega)) [h, WW, s1, s2]))
    | (refine guardK_not (fun h => ?_) (fun h => ?_) <;> (try simp (disch := first | omega | (simp only [LL]; omega)) [h, WW, s1, s2]))
    | (refine guardK_split (fun h => ?_) (fun h => ?_) <;> (try simp (disch := first | omega | (simp only [LL]; omega)) [h, WW, s1, s2]))
    | (refine condK_ndec (fun h => ?_) (fun h => ?_) <;> (try simp (disch := first | omega | (simp only [LL]; omega)) [h, WW, s1, s2]))
    | (refine condK_dec (fun h => ?_) (fun h => ?_) <;> (try simp (disch := first | omega | (simp only [LL]; omega)) [h, WW, s1, s2]))
    | (refine condK_nbeq (fun h => ?_) (fun h => ?_) <;> (try simp (disch := first | omega | (simp only [LL]; omega)) [h, WW, s1, s2]))
    | (refine condK_beq (fun h => ?_) (fun h => ?_) <;> (try simp (disch := first | omega | (simp only [LL]; omega)) [h, WW, s1, s2]))
    | (refine condK_bne (fun h => ?_) (fun h => ?_) <;> (try simp (disch := first | omega | (simp only [LL]; omega)) [h, WW, s1, s2]))
    | (refine condK_not (fun h => ?_) (fun h => ?_) <;> (try simp (disch := first | omega | (simp only [LL]; omega)) [h, WW, s1, s2]))
    | (refine condK_split (fun h => ?_) (fun h => ?_) <;> (try simp (disch := first | omega | (simp only [LL]; omega)) [h, WW, s1, s2]))
  refine .inl ⟨by simp, Nat.le_refl _, ?_, rfl⟩
  show AV.int .i64 _ = AV.int .i64 _
  congr 1
  simp only [rd3]
  omega

def rdNm (s : RS) : Nm × RS := (⟨(rd3 s).1, (rd3 (rd3 s).2).1, (rd3 (rd3 (rd3 s).2).2).1⟩, (rd3 (rd3 (rd3 s).2).2).2)
theorem rdNm_suf {b : List UInt8} {s : RS} (h : s.1 <:+ b) : (rdNm s).2.1 <:+ b := rd3_suf (rd3_suf (rd3_suf h))
theorem rname_spec {b : List UInt8} {s : RS} {l : Nat} {st : St} (hs : s.1 <:+ b) (hb : b.length ≤ 1000000) (hl : st.heap[l]? = some (refB b s)) : ASpec Try.prog 150 [.ptr l 0] st fun v st' => v = .agg (nmC (rdNm s).1) ∧ st' = ⟨st.heap.set l (refB b (rdNm s).2), st.toks⟩ := by
  refine raw_of T12s F150 rfl ?_
  obtain ⟨f1, f2, f3, f4, f5⟩ := at_facts hl
  simp (disch := first | omega | (simp only [LL]; omega)) [WW, c150]
  refine (rthree_spec hs hb (f1 _)).mono ?_
  rintro _ _ ⟨rfl, rfl⟩
  simp (disch := first | omega | (simp only [LL]; omega)) [WW, f4, f5]
  refine (rthree_spec (rd3_suf hs) hb (f2 _ _)).mono ?_
  rintro _ _ ⟨rfl, rfl⟩
  simp (disch := first | omega | (simp only [LL]; omega)) [WW, f4, f5]
  refine (rthree_spec (rd3_suf (rd3_suf hs)) hb (f2 _ _)).mono ?_
  rintro _ _ ⟨rfl, rfl⟩
  simp (disch := first | omega | (simp only [LL]; omega)) [WW, f4, f5]
  refine fin_set (by simp [refB]) (by simp) ?_
  simp [rdNm]
def rdF (s : RS) : Bool × RS := ((rd1 s).1 == 1, ((rd1 s).2.1, (rd1 s).2.2 || decide (1 < (rd1 s).1)))
theorem rflag_spec {b : List UInt8} {s : RS} {l : Nat} {st : St} (hs : s.1 <:+ b) (hb : b.length ≤ 1000000) (hl : st.heap[l]? = some (refB b s)) : ASpec Try.prog 153 [.ptr l 0] st fun v st' => v = .bool (rdF s).1 ∧ st' = ⟨st.heap.set l (refB b (rdF s).2), st.toks⟩ := by
  refine raw_of T12s F153 rfl ?_
  have hll := (List.getElem?_eq_some_iff.1 hl).1
  have hset : ∀ v, (st.heap.set l v)[l]? = some v := fun v => List.getElem?_set_self hll
  simp (disch := first | omega | (simp only [LL]; omega)) [WW, c153]
  refine (rbyte_spec hs hb hl).mono ?_
  rintro _ _ ⟨rfl, rfl⟩
  obtain ⟨n, hn⟩ : ∃ n, (rd1 s).1 = n := ⟨_, rfl⟩
  obtain ⟨r, hr⟩ : ∃ r, (rd1 s).2 = r := ⟨_, rfl⟩
  obtain ⟨r, bad⟩ := r
  rw [hn, hr]
  simp only [rdF, hn, hr]
  clear hll hl
  simp only [refB]
  simp (disch := first | omega | (simp only [LL]; omega)) [WW, hset]
  repeat' first
    | (refine region_static rfl (by decide +kernel) ?_; try simp (disch := first | omega | (simp only [LL]; omega)) [WW, hset])
    | (refine And.intro (by omega) ?_; try simp (disch := first | omega | (simp only [LL]; omega)) [WW, hset])
    | (refine guardK_ndec (fun h => ?_) (fun h => ?_) <;> (try simp (disch := first | omega | (simp only [LL]; omega)) [h, WW, hset]))
    | (refine guardK_dec (fun h => ?_) (fun h => ?_) <;> (try simp (disch := first | omega | (simp only [LL]; omega)) [h, WW, hset]))
    | (refine guardK_nbeq (fun h => ?_) (fun h => ?_) <;> (try simp (disch := first | omega | (simp only [LL]; omega)) [h, WW, hset]))
    | (refine guardK_beq (fun h => ?_) (fun h => ?_) <;> (try simp (disch := first | omega | (simp only [LL]; omega)) [h, WW, hset]))
    | (refine guardK_bne (fun h => ?_) (fun h => ?_) <;> (try simp (disch := first | omega | (simp only [LL]; omega)) [h, WW, hset]))
    | (refine guardK_not (fun h => ?_) (fun h => ?_) <;> (try simp (disch := first | omega | (simp only [LL]; omega)) [h, WW, hset]))
    | (refine guardK_split (fun h => ?_) (fun h => ?_) <;> (try simp (disch := first | omega | (simp only [LL]; omega)) [h, WW, hset]))
    | (refine condK_ndec (fun h => ?_) (fun h => ?_) <;> (try simp (disch := first | omega | (simp only [LL]; omega)) [h, WW, hset]))
    | (refine condK_dec (fun h => ?_) (fun h => ?_) <;> (try simp (disch := first | omega | (simp only [LL]; omega)) [h, WW, hset]))
    | (refine condK_nbeq (fun h => ?_) (fun h => ?_) <;> (try simp (disch := first | omega | (simp only [LL]; omega)) [h, WW, hset]))
    | (refine condK_beq (fun h => ?_) (fun h => ?_) <;> (try simp (disch := first | omega | (simp only [LL]; omega)) [h, WW, hset]))
    | (refine condK_bne (fun h => ?_) (fun h => ?_) <;> (try simp (disch := first | omega | (simp only [LL]; omega)) [h, WW, hset]))
    | (refine condK_not (fun h => ?_) (fun h => ?_) <;> (try simp (disch := first | omega | (simp only [LL]; omega)) [h, WW, hset]))
    | (refine condK_split (fun h => ?_) (fun h => ?_) <;> (try simp (disch := first | omega | (simp only [LL]; omega)) [h, WW, hset]))
  all_goals
    refine .inl ⟨by simp, Nat.le_refl _, ?_, ?_⟩
    · simp; try rfl
    · simp [*]

def rdn : Nat → RS → RS
  | 0, s => s
  | n + 1, s => (rd1 (rdn n s)).2
theorem rdn_suf {b : List UInt8} {s : RS} (h : s.1 <:+ b) : ∀ n, (rdn n s).1 <:+ b
  | 0 => h
  | n + 1 => rd1_suf (rdn_suf h n)
def rdB (n : Nat) (s : RS) : UInt8 := UInt8.ofInt (rd1 (rdn n s)).1
set_option maxRecDepth 20000 in
theorem rvalue_spec {b : List UInt8} {s : RS} {l : Nat} {st : St} (hs : s.1 <:+ b) (hb : b.length ≤ 1000000) (hl : st.heap[l]? = some (refB b s)) : ASpec Try.prog 151 [.ptr l 0] st fun v st' => v = .agg [u8 (rdB 0 s), u8 (rdB 1 s), u8 (rdB 2 s), u8 (rdB 3 s), u8 (rdB 4 s), u8 (rdB 5 s), u8 (rdB 6 s), u8 (rdB 7 s)] ∧ st' = ⟨st.heap.set l (refB b (rdn 8 s)), st.toks⟩ := by
  refine raw_of T12s F151 rfl ?_
  obtain ⟨f1, f2, f3, f4, f5⟩ := at_facts hl
  simp (disch := first | omega | (simp only [LL]; omega)) [WW, c151]
  refine awC_loopU 9 ?_
  simp (disch := first | omega | (simp only [LL]; omega)) [WW]
  refine (rbyte_spec (rdn_suf hs 0) hb (f1 _)).mono ?_
  rintro _ _ ⟨rfl, rfl⟩
  rw [show (rd1 (rdn 0 s)).2 = rdn 1 s from rfl]
  simp (disch := first | omega | (simp only [LL]; omega)) [WW, f4, f5]
  refine (rbyte_spec (rdn_suf hs 1) hb (f2 _ _)).mono ?_
  rintro _ _ ⟨rfl, rfl⟩
  rw [show (rd1 (rdn 1 s)).2 = rdn 2 s from rfl]
  simp (disch := first | omega | (simp only [LL]; omega)) [WW, f4, f5]
  refine (rbyte_spec (rdn_suf hs 2) hb (f2 _ _)).mono ?_
  rintro _ _ ⟨rfl, rfl⟩
  rw [show (rd1 (rdn 2 s)).2 = rdn 3 s from rfl]
  simp (disch := first | omega | (simp only [LL]; omega)) [WW, f4, f5]
  refine (rbyte_spec (rdn_suf hs 3) hb (f2 _ _)).mono ?_
  rintro _ _ ⟨rfl, rfl⟩
  rw [show (rd1 (rdn 3 s)).2 = rdn 4 s from rfl]
  simp (disch := first | omega | (simp only [LL]; omega)) [WW, f4, f5]
  refine (rbyte_spec (rdn_suf hs 4) hb (f2 _ _)).mono ?_
  rintro _ _ ⟨rfl, rfl⟩
  rw [show (rd1 (rdn 4 s)).2 = rdn 5 s from rfl]
  simp (disch := first | omega | (simp only [LL]; omega)) [WW, f4, f5]
  refine (rbyte_spec (rdn_suf hs 5) hb (f2 _ _)).mono ?_
  rintro _ _ ⟨rfl, rfl⟩
  rw [show (rd1 (rdn 5 s)).2 = rdn 6 s from rfl]
  simp (disch := first | omega | (simp only [LL]; omega)) [WW, f4, f5]
  refine (rbyte_spec (rdn_suf hs 6) hb (f2 _ _)).mono ?_
  rintro _ _ ⟨rfl, rfl⟩
  rw [show (rd1 (rdn 6 s)).2 = rdn 7 s from rfl]
  simp (disch := first | omega | (simp only [LL]; omega)) [WW, f4, f5]
  refine (rbyte_spec (rdn_suf hs 7) hb (f2 _ _)).mono ?_
  rintro _ _ ⟨rfl, rfl⟩
  rw [show (rd1 (rdn 7 s)).2 = rdn 8 s from rfl]
  simp (disch := first | omega | (simp only [LL]; omega)) [WW, f4, f5]
  refine fin_set (by simp [refB]) (by simp) ?_
  simp [rdB]

def rdW1 (s : RS) : Wr × RS := (⟨(rd1 s).1, rdB 0 (rd1 s).2, rdB 1 (rd1 s).2, rdB 2 (rd1 s).2, rdB 3 (rd1 s).2, rdB 4 (rd1 s).2, rdB 5 (rd1 s).2, rdB 6 (rd1 s).2, rdB 7 (rd1 s).2⟩, rdn 8 (rd1 s).2)
def rdWs : Nat → RS → List Wr × RS
  | 0, s => ([], s)
  | n + 1, s => if s.2 = true then ([], s) else ((rdW1 s).1 :: (rdWs n (rdW1 s).2).1, (rdWs n (rdW1 s).2).2)
def rdWr (s : RS) : List Wr × RS := rdWs (rd1 s).1.toNat (rd1 s).2
theorem rdWs_bad (n : Nat) {s : RS} (h : s.2 = true) : rdWs n s = ([], s) := by
  cases n with
  | zero => rfl
  | succ n => rw [rdWs, if_pos h]
theorem rdW1_suf {b : List UInt8} {s : RS} (h : s.1 <:+ b) : (rdW1 s).2.1 <:+ b := rdn_suf (rd1_suf h) 8
def WI (b : List UInt8) (l : Nat) (st : St) (n : Nat) (s1 : RS) (k : Nat) (env : Env) (w : St) : Prop :=
  ∃ i acc σ g, k + i = n ∧ env 0 = .ptr l 0 ∧ env 3 = .int .i64 n ∧ env 4 = .sl (.own st.toks.length) (wrs acc) ∧ env 5 = .int .i64 i ∧ w = ⟨st.heap.set l (refB b σ) ++ g, st.toks ++ [(acc.length, 9)]⟩ ∧ σ.1 <:+ b ∧ acc.length ≤ i ∧ rdWs n s1 = (acc ++ (rdWs (n - i) σ).1, (rdWs (n - i) σ).2)
@[simp] theorem wrs_push (l : List Wr) (b : Int) (v0 v1 v2 v3 v4 v5 v6 v7 : UInt8) : wrs l ++ [.agg [.int .i64 b, u8 v0, u8 v1, u8 v2, u8 v3, u8 v4, u8 v5, u8 v6, u8 v7]] = wrs (l ++ [⟨b, v0, v1, v2, v3, v4, v5, v6, v7⟩]) := by simp [wrs]
theorem rwrites_spec {b : List UInt8} {s : RS} {l : Nat} {st : St} (hs : s.1 <:+ b) (hb : b.length ≤ 1000000) (hl : st.heap[l]? = some (refB b s)) : ASpec Try.prog 152 [.ptr l 0] st fun v st' => v = .sl .any (wrs (rdWr s).1) ∧ st' = ⟨st.heap.set l (refB b (rdWr s).2), st.toks⟩ := by
  refine frz_of T12s F152 rfl ?_
  obtain ⟨f1, f2, f3, f4, f5⟩ := at_facts hl
  have b1 := rd1_bound s
  simp (disch := first | omega | (simp only [LL]; omega)) [WW, c152]
  refine (rbyte_spec hs hb hl).mono ?_
  rintro _ _ ⟨rfl, rfl⟩
  simp (disch := first | omega | (simp only [LL]; omega)) [WW]
  obtain ⟨n, hn⟩ : ∃ n : Nat, (rd1 s).1 = n := ⟨(rd1 s).1.toNat, by omega⟩
  refine awC_loopOwnW 4 9 [] (by simp) (WI b l st n (rd1 s).2) n ?_ ?_
  · exact ⟨0, [], (rd1 s).2, [], by simp [hn, rd1_suf hs]⟩
  rintro k env w ⟨i, acc, σ, g, hk, e0, e3, e4, e5, rfl, hsf, hal, hr⟩
  obtain ⟨rem, bad⟩ := σ
  have hR : refB b (rem, bad) = .cells false [.sl .any (ofBytes b), .int .i64 ((b.length - rem.length : Nat) : Int), .bool bad] := rfl
  have hW : rdWr s = rdWs n (rd1 s).2 := by rw [rdWr, hn, Int.toNat_natCast]
  have fin : ∀ (h0 : (rdWs (n - i) (rem, bad)) = ([], (rem, bad))), finishR st [.sl .any (wrs acc)] ⟨st.heap.set l (refB b (rem, bad)) ++ g, st.toks ++ [(acc.length, 9)]⟩ fun v st' => v = .sl .any (wrs (rdWr s).1) ∧ st' = ⟨st.heap.set l (refB b (rdWr s).2), st.toks⟩ := by
    intro h0
    refine fin_setT (by simp [refB]) (by simp) ?_
    rw [hW, hr, h0]
    simp
  by_cases hi : i < n
  · have hi' : (i : Int) < n := by omega
    cases bad with
    | true =>
      have := fin (rdWs_bad _ rfl)
      rw [hR] at this ⊢
      simp (disch := first | omega | (simp only [LL]; omega)) [WW, e0, e3, e4, e5, hi', f2]
      repeat' first
        | (refine region_static rfl (by decide +kernel) ?_; try simp (disch := first | omega | (simp only [LL]; omega)) [WW, e0, e3, e4, e5, hi', f2])
        | (refine And.intro (by omega) ?_; try simp (disch := first | omega | (simp only [LL]; omega)) [WW, e0, e3, e4, e5, hi', f2])
        | (refine guardK_ndec (fun h => ?_) (fun h => ?_) <;> (try simp (disch := first | omega | (simp only [LL]; omega)) [h, WW, e0, e3, e4, e5, hi', f2]))
        | (refine guardK_dec (fun h => ?_) (fun h => ?_) <;> (try simp (disch := first | omega | (simp only [LL]; omega)) [h, WW, e0, e3, e4, e5, hi', f2]))
        | (refine guardK_nbeq (fun h => ?_) (fun h => ?_) <;> (try simp (disch := first | omega | (simp only [LL]; omega)) [h, WW, e0, e3, e4, e5, hi', f2]))
        | (refine guardK_beq (fun h => ?_) (fun h => ?_) <;> (try simp (disch := first | omega | (simp only [LL]; omega)) [h, WW, e0, e3, e4, e5, hi', f2]))
        | (refine guardK_bne (fun h => ?_) (fun h => ?_) <;> (try simp (disch := first | omega | (simp only [LL]; omega)) [h, WW, e0, e3, e4, e5, hi', f2]))
        | (refine guardK_not (fun h => ?_) (fun h => ?_) <;> (try simp (disch := first | omega | (simp only [LL]; omega)) [h, WW, e0, e3, e4, e5, hi', f2]))
        | (refine guardK_split (fun h => ?_) (fun h => ?_) <;> (try simp (disch := first | omega | (simp only [LL]; omega)) [h, WW, e0, e3, e4, e5, hi', f2]))
        | (refine condK_ndec (fun h => ?_) (fun h => ?_) <;> (try simp (disch := first | omega | (simp only [LL]; omega)) [h, WW, e0, e3, e4, e5, hi', f2]))
        | (refine condK_dec (fun h => ?_) (fun h => ?_) <;> (try simp (disch := first | omega | (simp only [LL]; omega)) [h, WW, e0, e3, e4, e5, hi', f2]))
        | (refine condK_nbeq (fun h => ?_) (fun h => ?_) <;> (try simp (disch := first | omega | (simp only [LL]; omega)) [h, WW, e0, e3, e4, e5, hi', f2]))
        | (refine condK_beq (fun h => ?_) (fun h => ?_) <;> (try simp (disch := first | omega | (simp only [LL]; omega)) [h, WW, e0, e3, e4, e5, hi', f2]))
        | (refine condK_bne (fun h => ?_) (fun h => ?_) <;> (try simp (disch := first | omega | (simp only [LL]; omega)) [h, WW, e0, e3, e4, e5, hi', f2]))
        | (refine condK_not (fun h => ?_) (fun h => ?_) <;> (try simp (disch := first | omega | (simp only [LL]; omega)) [h, WW, e0, e3, e4, e5, hi', f2]))
        | (refine condK_split (fun h => ?_) (fun h => ?_) <;> (try simp (disch := first | omega | (simp only [LL]; omega)) [h, WW, e0, e3, e4, e5, hi', f2]))
      exact this
    | false =>
      clear fin
      have hg : ∀ gg, (st.heap.set l (refB b (rem, false)) ++ gg)[l]? = some (refB b (rem, false)) := fun gg => f2 _ _
      have hr2 : rdWs n (rd1 s).2 = (acc ++ [(rdW1 (rem, false)).1] ++ (rdWs (n - (i + 1)) (rdW1 (rem, false)).2).1, (rdWs (n - (i + 1)) (rdW1 (rem, false)).2).2) := by
        rw [hr, show n - i = (n - (i + 1)) + 1 by omega, rdWs, if_neg (by simp)]
        simp
      rw [hR]
      simp (disch := first | omega | (simp only [LL]; omega)) [WW, e0, e3, e4, e5, hi', f2]
      repeat' first
        | (refine region_static rfl (by decide +kernel) ?_; try simp (disch := first | omega | (simp only [LL]; omega)) [WW, e0, e3, e4, e5, hi', f2])
        | (refine And.intro (by omega) ?_; try simp (disch := first | omega | (simp only [LL]; omega)) [WW, e0, e3, e4, e5, hi', f2])
        | (refine guardK_ndec (fun h => ?_) (fun h => ?_) <;> (try simp (disch := first | omega | (simp only [LL]; omega)) [h, WW, e0, e3, e4, e5, hi', f2]))
        | (refine guardK_dec (fun h => ?_) (fun h => ?_) <;> (try simp (disch := first | omega | (simp only [LL]; omega)) [h, WW, e0, e3, e4, e5, hi', f2]))
        | (refine guardK_nbeq (fun h => ?_) (fun h => ?_) <;> (try simp (disch := first | omega | (simp only [LL]; omega)) [h, WW, e0, e3, e4, e5, hi', f2]))
        | (refine guardK_beq (fun h => ?_) (fun h => ?_) <;> (try simp (disch := first | omega | (simp only [LL]; omega)) [h, WW, e0, e3, e4, e5, hi', f2]))
        | (refine guardK_bne (fun h => ?_) (fun h => ?_) <;> (try simp (disch := first | omega | (simp only [LL]; omega)) [h, WW, e0, e3, e4, e5, hi', f2]))
        | (refine guardK_not (fun h => ?_) (fun h => ?_) <;> (try simp (disch := first | omega | (simp only [LL]; omega)) [h, WW, e0, e3, e4, e5, hi', f2]))
        | (refine guardK_split (fun h => ?_) (fun h => ?_) <;> (try simp (disch := first | omega | (simp only [LL]; omega)) [h, WW, e0, e3, e4, e5, hi', f2]))
        | (refine condK_ndec (fun h => ?_) (fun h => ?_) <;> (try simp (disch := first | omega | (simp only [LL]; omega)) [h, WW, e0, e3, e4, e5, hi', f2]))
        | (refine condK_dec (fun h => ?_) (fun h => ?_) <;> (try simp (disch := first | omega | (simp only [LL]; omega)) [h, WW, e0, e3, e4, e5, hi', f2]))
        | (refine condK_nbeq (fun h => ?_) (fun h => ?_) <;> (try simp (disch := first | omega | (simp only [LL]; omega)) [h, WW, e0, e3, e4, e5, hi', f2]))
        | (refine condK_beq (fun h => ?_) (fun h => ?_) <;> (try simp (disch := first | omega | (simp only [LL]; omega)) [h, WW, e0, e3, e4, e5, hi', f2]))
        | (refine condK_bne (fun h => ?_) (fun h => ?_) <;> (try simp (disch := first | omega | (simp only [LL]; omega)) [h, WW, e0, e3, e4, e5, hi', f2]))
        | (refine condK_not (fun h => ?_) (fun h => ?_) <;> (try simp (disch := first | omega | (simp only [LL]; omega)) [h, WW, e0, e3, e4, e5, hi', f2]))
        | (refine condK_split (fun h => ?_) (fun h => ?_) <;> (try simp (disch := first | omega | (simp only [LL]; omega)) [h, WW, e0, e3, e4, e5, hi', f2]))
      rw [← hR]
      refine (rbyte_spec hsf hb (f2 _ _)).mono ?_
      rintro _ _ ⟨rfl, rfl⟩
      simp (disch := first | omega | (simp only [LL]; omega)) [WW, e0, e3, e4, e5, f2, f5]
      refine (rvalue_spec (st := ⟨st.heap.set l (refB b (rd1 (rem, false)).2) ++ g, st.toks ++ [(acc.length, 9)]⟩) (rd1_suf hsf) hb (f2 _ _)).mono ?_
      rintro _ _ ⟨rfl, rfl⟩
      simp (disch := first | omega | (simp only [LL]; omega)) [WW, e0, e3, e4, e5, f2, f5]
      repeat' first
        | (refine region_static rfl (by decide +kernel) ?_; try simp (disch := first | omega | (simp only [LL]; omega)) [WW, e0, e3, e4, e5, f2, f5])
        | (refine And.intro (by omega) ?_; try simp (disch := first | omega | (simp only [LL]; omega)) [WW, e0, e3, e4, e5, f2, f5])
        | (refine guardK_ndec (fun h => ?_) (fun h => ?_) <;> (try simp (disch := first | omega | (simp only [LL]; omega)) [h, WW, e0, e3, e4, e5, f2, f5]))
        | (refine guardK_dec (fun h => ?_) (fun h => ?_) <;> (try simp (disch := first | omega | (simp only [LL]; omega)) [h, WW, e0, e3, e4, e5, f2, f5]))
        | (refine guardK_nbeq (fun h => ?_) (fun h => ?_) <;> (try simp (disch := first | omega | (simp only [LL]; omega)) [h, WW, e0, e3, e4, e5, f2, f5]))
        | (refine guardK_beq (fun h => ?_) (fun h => ?_) <;> (try simp (disch := first | omega | (simp only [LL]; omega)) [h, WW, e0, e3, e4, e5, f2, f5]))
        | (refine guardK_bne (fun h => ?_) (fun h => ?_) <;> (try simp (disch := first | omega | (simp only [LL]; omega)) [h, WW, e0, e3, e4, e5, f2, f5]))
        | (refine guardK_not (fun h => ?_) (fun h => ?_) <;> (try simp (disch := first | omega | (simp only [LL]; omega)) [h, WW, e0, e3, e4, e5, f2, f5]))
        | (refine guardK_split (fun h => ?_) (fun h => ?_) <;> (try simp (disch := first | omega | (simp only [LL]; omega)) [h, WW, e0, e3, e4, e5, f2, f5]))
        | (refine condK_ndec (fun h => ?_) (fun h => ?_) <;> (try simp (disch := first | omega | (simp only [LL]; omega)) [h, WW, e0, e3, e4, e5, f2, f5]))
        | (refine condK_dec (fun h => ?_) (fun h => ?_) <;> (try simp (disch := first | omega | (simp only [LL]; omega)) [h, WW, e0, e3, e4, e5, f2, f5]))
        | (refine condK_nbeq (fun h => ?_) (fun h => ?_) <;> (try simp (disch := first | omega | (simp only [LL]; omega)) [h, WW, e0, e3, e4, e5, f2, f5]))
        | (refine condK_beq (fun h => ?_) (fun h => ?_) <;> (try simp (disch := first | omega | (simp only [LL]; omega)) [h, WW, e0, e3, e4, e5, f2, f5]))
        | (refine condK_bne (fun h => ?_) (fun h => ?_) <;> (try simp (disch := first | omega | (simp only [LL]; omega)) [h, WW, e0, e3, e4, e5, f2, f5]))
        | (refine condK_not (fun h => ?_) (fun h => ?_) <;> (try simp (disch := first | omega | (simp only [LL]; omega)) [h, WW, e0, e3, e4, e5, f2, f5]))
        | (refine condK_split (fun h => ?_) (fun h => ?_) <;> (try simp (disch := first | omega | (simp only [LL]; omega)) [h, WW, e0, e3, e4, e5, f2, f5]))
      refine ⟨k - 1, by omega, i + 1, acc ++ [(rdW1 (rem, false)).1], (rdW1 (rem, false)).2, g ++ [.cells false [u8 (rdB 0 (rd1 (rem, false)).2), u8 (rdB 1 (rd1 (rem, false)).2), u8 (rdB 2 (rd1 (rem, false)).2), u8 (rdB 3 (rd1 (rem, false)).2), u8 (rdB 4 (rd1 (rem, false)).2), u8 (rdB 5 (rd1 (rem, false)).2), u8 (rdB 6 (rd1 (rem, false)).2), u8 (rdB 7 (rd1 (rem, false)).2)]], by omega, by simp [e0], by simp [e3], by simp [rdW1], by simp, by simp [rdW1], rdW1_suf hsf, by simp; omega, hr2⟩
  · have hi' : ¬ (i : Int) < n := by omega
    have := fin (by rw [show n - i = 0 by omega]; rfl)
    simp (disch := first | omega | (simp only [LL]; omega)) [WW, e0, e3, e4, e5, hi']
    repeat' first
      | (refine region_static rfl (by decide +kernel) ?_; try simp (disch := first | omega | (simp only [LL]; omega)) [WW, e0, e3, e4, e5, hi'])
      | (refine And.intro (by omega) ?_; try simp (disch := first | omega | (simp only [LL]; omega)) [WW, e0, e3, e4, e5, hi'])
      | (refine guardK_ndec (fun h => ?_) (fun h => ?_) <;> (try simp (disch := first | omega | (simp only [LL]; omega)) [h, WW, e0, e3, e4, e5, hi']))
      | (refine guardK_dec (fun h => ?_) (fun h => ?_) <;> (try simp (disch := first | omega | (simp only [LL]; omega)) [h, WW, e0, e3, e4, e5, hi']))
      | (refine guardK_nbeq (fun h => ?_) (fun h => ?_) <;> (try simp (disch := first | omega | (simp only [LL]; omega)) [h, WW, e0, e3, e4, e5, hi']))
      | (refine guardK_beq (fun h => ?_) (fun h => ?_) <;> (try simp (disch := first | omega | (simp only [LL]; omega)) [h, WW, e0, e3, e4, e5, hi']))
      | (refine guardK_bne (fun h => ?_) (fun h => ?_) <;> (try simp (disch := first | omega | (simp only [LL]; omega)) [h, WW, e0, e3, e4, e5, hi']))
      | (refine guardK_not (fun h => ?_) (fun h => ?_) <;> (try simp (disch := first | omega | (simp only [LL]; omega)) [h, WW, e0, e3, e4, e5, hi']))
      | (refine guardK_split (fun h => ?_) (fun h => ?_) <;> (try simp (disch := first | omega | (simp only [LL]; omega)) [h, WW, e0, e3, e4, e5, hi']))
      | (refine condK_ndec (fun h => ?_) (fun h => ?_) <;> (try simp (disch := first | omega | (simp only [LL]; omega)) [h, WW, e0, e3, e4, e5, hi']))
      | (refine condK_dec (fun h => ?_) (fun h => ?_) <;> (try simp (disch := first | omega | (simp only [LL]; omega)) [h, WW, e0, e3, e4, e5, hi']))
      | (refine condK_nbeq (fun h => ?_) (fun h => ?_) <;> (try simp (disch := first | omega | (simp only [LL]; omega)) [h, WW, e0, e3, e4, e5, hi']))
      | (refine condK_beq (fun h => ?_) (fun h => ?_) <;> (try simp (disch := first | omega | (simp only [LL]; omega)) [h, WW, e0, e3, e4, e5, hi']))
      | (refine condK_bne (fun h => ?_) (fun h => ?_) <;> (try simp (disch := first | omega | (simp only [LL]; omega)) [h, WW, e0, e3, e4, e5, hi']))
      | (refine condK_not (fun h => ?_) (fun h => ?_) <;> (try simp (disch := first | omega | (simp only [LL]; omega)) [h, WW, e0, e3, e4, e5, hi']))
      | (refine condK_split (fun h => ?_) (fun h => ?_) <;> (try simp (disch := first | omega | (simp only [LL]; omega)) [h, WW, e0, e3, e4, e5, hi']))
    exact this
theorem rd1_len (s : RS) : (rd1 s).2.1.length ≤ s.1.length := by
  obtain ⟨l, bad⟩ := s
  cases l <;> simp [rd1]
theorem rdWs_len (n : Nat) (s : RS) : (rdWs n s).1.length ≤ n := by
  induction n generalizing s with
  | zero => simp [rdWs]
  | succ n ih =>
    rw [rdWs]
    split
    · simp
    · have := ih (rdW1 s).2
      simp only [List.length_cons]
      omega
theorem rdWr_len (s : RS) : (rdWr s).1.length ≤ 255 := by
  have := rdWs_len (rd1 s).1.toNat (rd1 s).2
  have := rd1_bound s
  unfold rdWr
  omega
theorem rdWs_suf {b : List UInt8} : ∀ (n : Nat) {s : RS}, s.1 <:+ b → (rdWs n s).2.1 <:+ b
  | 0, _, h => h
  | n + 1, s, h => by
    rw [rdWs]
    split
    · exact h
    · exact rdWs_suf n (rdW1_suf h)
theorem rdWr_suf {b : List UInt8} {s : RS} (h : s.1 <:+ b) : (rdWr s).2.1 <:+ b := rdWs_suf _ (rd1_suf h)
end Go.Proofs.Ytjceilhmgbdgiaa

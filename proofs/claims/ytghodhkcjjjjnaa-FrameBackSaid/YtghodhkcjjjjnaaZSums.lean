/- sums: what its functions hand back. -/
import Derived.Test.YtghodhkcjjjjnaaZCode
import Derived.Test.YtghodhkcjjjjnaaZAmEval
set_option linter.all false
namespace Go.Proofs.Ytghodhkcjjjjnaa
open Go.Am

def step (r : BitVec 32) : BitVec 32 := r >>> 1 ^^^ (3988292384#32 &&& -(r &&& 1#32))
def half (r : BitVec 32) : BitVec 32 := step (step (step (step r)))
def steps : Nat → BitVec 32 → BitVec 32
  | 0, r => r
  | n + 1, r => step (steps n r)
def nib (r : BitVec 32) : BitVec 32 := r >>> 4 ^^^ half (r &&& 15#32)
def thr1 (r : BitVec 32) (b : UInt8) : BitVec 32 := nib (nib (r ^^^ b.toBitVec.setWidth 32))
def thr (r : BitVec 32) (l : List UInt8) : BitVec 32 := l.foldl thr1 r

theorem half_spec (r : BitVec 32) (st : St) : ASpec Try.prog 35 [u32 r] st fun v st' => v = u32 (half r) ∧ st' = st := by
  refine pure_of (R := fun v => v = _) OSound.none F35 rfl ?_
  simp [c35]
  refine awC_loop (fun k env s => ∃ i, k + i = 4 ∧ env 0 = u32 (steps i r) ∧ env 3 = .int .i64 i ∧ s = st) 4 ?_ ?_
  · exact ⟨0, by simp [steps]⟩
  rintro k env s ⟨i, hk, h0, h3, rfl⟩
  by_cases hi : i < 4
  · have hi' : (i : Int) < 4 := by omega
    simp (disch := omega) [h0, h3, hi', IntWalk.i64_in]
    refine ⟨k - 1, by omega, [0, 3], _, .pop (by simp) (by simp) (by simp), i + 1, by omega, ?_⟩
    simp [steps, step]
  · have hi' : ¬ (i : Int) < 4 := by omega
    have : i = 4 := by omega
    subst this
    simp (disch := omega) [h0, h3]
    rfl

noncomputable def O1 : Orc := Orc.none.add 35 (tab (fun r : BitVec 32 => [u32 r]) (fun r => u32 (half r)) fun _ => True)
theorem O1s : OSound Try.prog O1 := OSound.none.tab fun r _ st => half_spec r st
theorem O1_35 (r : BitVec 32) : O1 35 [u32 r] = some (u32 (half r)) := by
  rw [O1, Orc.add_same]
  exact tab_eq (fun x y h => by simp at h; rw [h]) trivial

def tbl (i : Nat) : List AV := (List.range 16).map fun j => if j < i then u32 (half (BitVec.ofNat 32 j)) else u32 0#32

theorem tbl_length (i : Nat) : (tbl i).length = 16 := by simp [tbl]
theorem tbl_set (i : Nat) : (tbl i).set i (u32 (half (BitVec.ofNat 32 i))) = tbl (i + 1) := by
  apply List.ext_getElem?
  intro j
  simp only [tbl, List.getElem?_set, List.length_map, List.length_range, List.getElem?_map, List.getElem?_range']
  by_cases hj : j < 16
  · simp [hj]
    by_cases e : i = j
    · subst e; simp [hj]
    · simp [e]
      congr 1
      simp
      omega
  · simp [hj]
    omega

theorem tbl_ok (n m i : Nat) : okL n m (tbl i) = true := okL_map _ _ fun j _ => by split <;> rfl
theorem tbl_norm (i : Nat) : normL (tbl i) = tbl i := normL_map _ _ fun j => by split <;> rfl

theorem table_spec (st : St) : ASpec Try.prog 34 [] st fun v st' => v = .agg (tbl 16) ∧ st' = st := by
  refine pure_of (R := fun v => v = _) O1s F34 rfl ?_
  simp [c34]
  refine awC_loop (fun k env s => ∃ i, k + i = 16 ∧ env 0 = .ptr st.heap.length 0 ∧ env 1 = .fn (.func 35) [] [] ∧ env 2 = .ptr (st.heap.length + 1) 0 ∧ env 4 = .int .i64 i ∧ s = ⟨st.heap ++ [.cells false (tbl 0), .cells false (tbl i)], st.toks⟩) 16 ?_ ?_
  · exact ⟨0, by simp [tbl, List.range, List.range.loop]⟩
  rintro k env s ⟨i, hk, h0, h1, h2, h4, rfl⟩
  by_cases hi : i < 16
  · have hi' : (i : Int) < 16 := by omega
    simp (disch := omega) [h0, h1, h2, h4, hi', IntWalk.i64_in, O1_35, tbl_length, tbl_set]
    refine ⟨by omega, k - 1, by omega, [0, 1, 2, 4], _, .over (r := [.cells false (tbl 0), .cells false (tbl (i + 1))]) (tk := st.toks) (by simp) (by simp) (by simp) (by simp) (by simp [tbl_ok]) (by simp [h0, h1, h2]), i + 1, by omega, ?_⟩
    simp
  · have hi' : ¬ (i : Int) < 16 := by omega
    have : i = 16 := by omega
    subst this
    have ht : List.take 16 (tbl 16) = tbl 16 := List.take_of_length_le (by simp [tbl_length])
    have hs : setRange (tbl 0) 0 (tbl 16) = tbl 16 := setRange_all (by simp [tbl_length])
    simp (disch := omega) [h0, h1, h2, h4, hi', tbl_length, ht, hs, tbl_norm, tbl_ok]

noncomputable def O2 : Orc := O1.add 34 (tab (fun _ : Unit => []) (fun _ => .agg (tbl 16)) fun _ => True)
theorem O2s : OSound Try.prog O2 := O1s.tab fun _ _ st => table_spec st
theorem O2_34 : O2 34 [] = some (.agg (tbl 16)) := by
  rw [O2, Orc.add_same]
  exact tab_eq (fun _ _ _ => rfl) trivial (x := ())

theorem low4 (r : BitVec 32) : nu (r &&& 15#32) < 16 := by
  show (r &&& 15#32).toNat < 16
  have := Nat.and_le_right (n := r.toNat) (m := 15)
  simp only [BitVec.toNat_and]
  exact Nat.lt_succ_of_le this

theorem tbl_get (r : BitVec 32) : (tbl 16)[nu (r &&& 15#32)]? = some (u32 (half (r &&& 15#32))) := by
  have h := low4 r
  unfold nu at *
  simp only [tbl, List.getElem?_map, List.getElem?_range h, Option.map_some, if_pos h, BitVec.ofNat_toNat, BitVec.setWidth_eq]

theorem tbl_over (vs : List AV) (h : vs.length = 16) : setRange vs 0 (tbl 16) = tbl 16 := setRange_all (by simp [tbl_length, h])

theorem thr_take (r : BitVec 32) (l : List UInt8) (i : Nat) (h : i < l.length) : thr r (l.take (i + 1)) = thr1 (thr r (l.take i)) l[i] := by
  rw [thr, List.take_succ_eq_append_getElem h, List.foldl_append]
  rfl

theorem through_spec (r : BitVec 32) (l : List UInt8) (hl : l.length ≤ 2147483648) (st : St) : ASpec Try.prog 33 [u32 r, .sl .any (ofBytes l)] st fun v st' => v = u32 (thr r l) ∧ st' = st := by
  refine pure_of (R := fun v => v = _) O2s F33 rfl ?_
  simp [c33, O2_34, tbl_length, tbl_over]
  refine awC_loop (fun k env s => ∃ i, k + i = l.length ∧ env 0 = u32 (thr r (l.take i)) ∧ env 1 = .sl .any (ofBytes l) ∧ env 5 = .ptr st.heap.length 0 ∧ env 9 = .int .i64 l.length ∧ env 10 = .int .i64 i ∧ s = ⟨st.heap ++ [.cells false (tbl 16)], st.toks⟩) l.length ?_ ?_
  · exact ⟨0, by simp [thr]⟩
  rintro k env s ⟨i, hk, h0, h1, h5, h9, h10, rfl⟩
  by_cases hi : i < l.length
  · have hi' : (i : Int) < l.length := by omega
    simp (disch := omega) [h0, h1, h5, h9, h10, hi, hi', IntWalk.i64_in, low4, tbl_get]
    refine ⟨k - 1, by omega, [0, 1, 5, 9, 10], _, .pop (by simp) (by simp) (by simp [h0, h1, h5, h9]), i + 1, by omega, ?_⟩
    simp [h1, h5, h9, thr_take _ _ _ hi, thr1, nib]
  · have hi' : ¬ (i : Int) < l.length := by omega
    simp (disch := omega) [h0, h1, h5, h9, h10, hi, hi', List.take_of_length_le]

noncomputable def O3 : Orc := O2.add 33 (tab (fun x : BitVec 32 × List UInt8 => [u32 x.1, .sl .any (ofBytes x.2)]) (fun x => u32 (thr x.1 x.2)) fun x => x.2.length ≤ 2147483648)
theorem O3s : OSound Try.prog O3 := O2s.tab fun x h st => through_spec x.1 x.2 h st
theorem O3_33 (r : BitVec 32) (l : List UInt8) (h : l.length ≤ 2147483648) : O3 33 [u32 r, .sl .any (ofBytes l)] = some (u32 (thr r l)) := by
  rw [O3, Orc.add_same]
  exact tab_eq (fun x y h => by simp at h; rw [h.1, h.2]) (x := (r, l)) h

def crcJ (r : BitVec 32) (l : List UInt8) : BitVec 32 := ~~~ thr (~~~ r) l
theorem join_spec (r : BitVec 32) (l : List UInt8) (hl : l.length ≤ 2147483648) (st : St) : ASpec Try.prog 30 [u32 r, .sl .any (ofBytes l)] st fun v st' => v = u32 (crcJ r l) ∧ st' = st := by
  refine pure_of (R := fun v => v = _) O3s F30 rfl ?_
  simp (disch := omega) [c30, O3_33, crcJ]

noncomputable def O4 : Orc := O3.add 30 (tab (fun x : BitVec 32 × List UInt8 => [u32 x.1, .sl .any (ofBytes x.2)]) (fun x => u32 (crcJ x.1 x.2)) fun x => x.2.length ≤ 2147483648)
theorem O4s : OSound Try.prog O4 := O3s.tab fun x h st => join_spec x.1 x.2 h st
theorem O4_30 (r : BitVec 32) (l : List UInt8) (h : l.length ≤ 2147483648) : O4 30 [u32 r, .sl .any (ofBytes l)] = some (u32 (crcJ r l)) := by
  rw [O4, Orc.add_same]
  exact tab_eq (fun x y h => by simp at h; rw [h.1, h.2]) (x := (r, l)) h

def crc (l : List UInt8) : BitVec 32 := crcJ 0#32 l
theorem sum_spec (l : List UInt8) (hl : l.length ≤ 2147483648) (st : St) : ASpec Try.prog 20 [.sl .any (ofBytes l)] st fun v st' => v = u32 (crc l) ∧ st' = st := by
  refine pure_of (R := fun v => v = _) O4s F20 rfl ?_
  simp (disch := omega) [c20, O4_30, crc]

noncomputable def O5 : Orc := O4.add 20 (tab (fun x : List UInt8 => [.sl .any (ofBytes x)]) (fun x => u32 (crc x)) fun x => x.length ≤ 2147483648)
theorem O5s : OSound Try.prog O5 := O4s.tab fun x h st => sum_spec x h st
theorem O5_20 (l : List UInt8) (h : l.length ≤ 2147483648) : O5 20 [.sl .any (ofBytes l)] = some (u32 (crc l)) := by
  rw [O5, Orc.add_same]
  exact tab_eq (fun x y h => by simp at h; rw [h]) (x := l) h
end Go.Proofs.Ytghodhkcjjjjnaa

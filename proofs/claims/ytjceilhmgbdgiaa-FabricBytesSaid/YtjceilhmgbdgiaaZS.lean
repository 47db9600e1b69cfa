/- Sums: what they are, sealing and opening. -/
import Derived.Test.YtjceilhmgbdgiaaZL
set_option linter.all false
namespace Go.Proofs.Ytjceilhmgbdgiaa
open Go.Am

def step (r : BitVec 32) : BitVec 32 := r >>> 1 ^^^ (3988292384#32 &&& -(r &&& 1#32))
def half (r : BitVec 32) : BitVec 32 := step (step (step (step r)))
def steps : Nat → BitVec 32 → BitVec 32
  | 0, r => r
  | n + 1, r => step (steps n r)
def nib (r : BitVec 32) : BitVec 32 := r >>> 4 ^^^ half (r &&& 15#32)
def thr1 (r : BitVec 32) (b : UInt8) : BitVec 32 := nib (nib (r ^^^ b.toBitVec.setWidth 32))
def thr (r : BitVec 32) (l : List UInt8) : BitVec 32 := l.foldl thr1 r

theorem half_spec (r : BitVec 32) (st : St) : ASpec Try.prog 218 [u32 r] st fun v st' => v = u32 (half r) ∧ st' = st := by
  refine pure_of (R := fun v => v = _) C4s F218 rfl ?_
  simp [c218]
  refine awC_loop (fun k env s => ∃ i, k + i = 4 ∧ env 0 = u32 (steps i r) ∧ env 3 = .int .i64 i ∧ s = st) 4 ?_ ?_
  · exact ⟨0, by simp [steps]⟩
  rintro k env s ⟨i, hk, h0, h3, rfl⟩
  by_cases hi : i < 4
  · have hi' : (i : Int) < 4 := by omega
    simp (disch := omega) [h0, h3, hi', IntWalk.i64_in]
    refine ⟨k - 1, by omega, [0, 3], _, .pop (by simp) (by simp) (by simp), i + 1, by omega, ?_⟩
    simp [steps, step]
  · have hi' : ¬ (i : Int) < 4 := by omega
    have : i = 4 := by omega
    subst this
    simp (disch := omega) [h0, h3]
    rfl

noncomputable def T1 : Orc := C4.add 218 (tab (fun x : BitVec 32 => [u32 x]) (fun x => u32 (half x)) fun x => True)
theorem T1s : OSound Try.prog T1 := C4s.tab fun x h st => half_spec x st
@[simp] theorem T1_218 (r : BitVec 32) : T1 218 [u32 r] = some (u32 (half r)) := by
  rw [T1, Orc.add_same]
  exact tab_eq (fun x y h => by simp at h; simp [h]) (x := (r)) trivial
@[simp] theorem T1_o (f : Nat) (args : List AV) (h : f ≠ 218) : T1 f args = C4 f args := by
  rw [T1, Orc.add_other _ _ _ _ _ h]
def tbl (i : Nat) : List AV := (List.range 16).map fun j => if j < i then u32 (half (BitVec.ofNat 32 j)) else u32 0#32

theorem tbl_length (i : Nat) : (tbl i).length = 16 := by simp [tbl]
theorem tbl_set (i : Nat) : (tbl i).set i (u32 (half (BitVec.ofNat 32 i))) = tbl (i + 1) := by
  apply List.ext_getElem?
  intro j
  simp only [tbl, List.getElem?_set, List.length_map, List.length_range, List.getElem?_map, List.getElem?_range']
  by_cases hj : j < 16
  · simp [hj]
    by_cases e : i = j
    · subst e; simp [hj]
    · simp [e]
      congr 1
      simp
      omega
  · simp [hj]
    omega

theorem tbl_ok (n m i : Nat) : okL n m (tbl i) = true := okL_map _ _ fun j _ => by split <;> rfl
theorem tbl_norm (i : Nat) : normL (tbl i) = tbl i := normL_map _ _ fun j => by split <;> rfl

theorem table_spec (st : St) : ASpec Try.prog 217 [] st fun v st' => v = .agg (tbl 16) ∧ st' = st := by
  refine pure_of (R := fun v => v = _) T1s F217 rfl ?_
  simp [c217]
  refine awC_loop (fun k env s => ∃ i, k + i = 16 ∧ env 0 = .ptr st.heap.length 0 ∧ env 1 = .fn (.func 218) [] [] ∧ env 2 = .ptr (st.heap.length + 1) 0 ∧ env 4 = .int .i64 i ∧ s = ⟨st.heap ++ [.cells false (tbl 0), .cells false (tbl i)], st.toks⟩) 16 ?_ ?_
  · exact ⟨0, by simp [tbl, List.range, List.range.loop]⟩
  rintro k env s ⟨i, hk, h0, h1, h2, h4, rfl⟩
  by_cases hi : i < 16
  · have hi' : (i : Int) < 16 := by omega
    simp (disch := omega) [h0, h1, h2, h4, hi', IntWalk.i64_in, T1_218, tbl_length, tbl_set]
    refine ⟨by omega, k - 1, by omega, [0, 1, 2, 4], _, .over (r := [.cells false (tbl 0), .cells false (tbl (i + 1))]) (tk := st.toks) (by simp) (by simp) (by simp) (by simp) (by simp [tbl_ok]) (by simp [h0, h1, h2]), i + 1, by omega, ?_⟩
    simp
  · have hi' : ¬ (i : Int) < 16 := by omega
    have : i = 16 := by omega
    subst this
    have ht : List.take 16 (tbl 16) = tbl 16 := List.take_of_length_le (by simp [tbl_length])
    have hs : setRange (tbl 0) 0 (tbl 16) = tbl 16 := setRange_all (by simp [tbl_length])
    simp (disch := omega) [h0, h1, h2, h4, hi', tbl_length, ht, hs, tbl_norm, tbl_ok]

noncomputable def T2 : Orc := T1.add 217 (tab (fun x : Unit => []) (fun x => .agg (tbl 16)) fun x => True)
theorem T2s : OSound Try.prog T2 := T1s.tab fun x h st => table_spec st
@[simp] theorem T2_217  : T2 217 [] = some (.agg (tbl 16)) := by
  rw [T2, Orc.add_same]
  exact tab_eq (fun x y h => by rfl) (x := ()) trivial
@[simp] theorem T2_o (f : Nat) (args : List AV) (h : f ≠ 217) : T2 f args = T1 f args := by
  rw [T2, Orc.add_other _ _ _ _ _ h]
theorem low4 (r : BitVec 32) : nu (r &&& 15#32) < 16 := by
  show (r &&& 15#32).toNat < 16
  have := Nat.and_le_right (n := r.toNat) (m := 15)
  simp only [BitVec.toNat_and]
  exact Nat.lt_succ_of_le this

theorem tbl_get (r : BitVec 32) : (tbl 16)[nu (r &&& 15#32)]? = some (u32 (half (r &&& 15#32))) := by
  have h := low4 r
  unfold nu at *
  simp only [tbl, List.getElem?_map, List.getElem?_range h, Option.map_some, if_pos h, BitVec.ofNat_toNat, BitVec.setWidth_eq]

theorem tbl_over (vs : List AV) (h : vs.length = 16) : setRange vs 0 (tbl 16) = tbl 16 := setRange_all (by simp [tbl_length, h])

theorem thr_take (r : BitVec 32) (l : List UInt8) (i : Nat) (h : i < l.length) : thr r (l.take (i + 1)) = thr1 (thr r (l.take i)) l[i] := by
  rw [thr, List.take_succ_eq_append_getElem h, List.foldl_append]
  rfl

theorem through_spec (r : BitVec 32) (l : List UInt8) (hl : l.length ≤ 2147483648) (st : St) : ASpec Try.prog 215 [u32 r, .sl .any (ofBytes l)] st fun v st' => v = u32 (thr r l) ∧ st' = st := by
  refine pure_of (R := fun v => v = _) T2s F215 rfl ?_
  simp [c215, T2_217, tbl_length, tbl_over]
  refine awC_loop (fun k env s => ∃ i, k + i = l.length ∧ env 0 = u32 (thr r (l.take i)) ∧ env 1 = .sl .any (ofBytes l) ∧ env 5 = .ptr st.heap.length 0 ∧ env 9 = .int .i64 l.length ∧ env 10 = .int .i64 i ∧ s = ⟨st.heap ++ [.cells false (tbl 16)], st.toks⟩) l.length ?_ ?_
  · exact ⟨0, by simp [thr]⟩
  rintro k env s ⟨i, hk, h0, h1, h5, h9, h10, rfl⟩
  by_cases hi : i < l.length
  · have hi' : (i : Int) < l.length := by omega
    simp (disch := omega) [h0, h1, h5, h9, h10, hi, hi', IntWalk.i64_in, low4, tbl_get]
    refine ⟨k - 1, by omega, [0, 1, 5, 9, 10], _, .pop (by simp) (by simp) (by simp [h0, h1, h5, h9]), i + 1, by omega, ?_⟩
    simp [h1, h5, h9, thr_take _ _ _ hi, thr1, nib]
  · have hi' : ¬ (i : Int) < l.length := by omega
    simp (disch := omega) [h0, h1, h5, h9, h10, hi, hi', List.take_of_length_le]

noncomputable def T3 : Orc := T2.add 215 (tab (fun x : BitVec 32 × List UInt8 => [u32 x.1, .sl .any (ofBytes x.2)]) (fun x => u32 (thr x.1 x.2)) fun x => x.2.length ≤ 2147483648)
theorem T3s : OSound Try.prog T3 := T2s.tab fun x h st => through_spec x.1 x.2 h st
@[simp] theorem T3_215 (r : BitVec 32) (l : List UInt8) (h : l.length ≤ 2147483648) : T3 215 [u32 r, .sl .any (ofBytes l)] = some (u32 (thr r l)) := by
  rw [T3, Orc.add_same]
  exact tab_eq (fun x y h => by simp at h; simp [h]) (x := (r, l)) h
@[simp] theorem T3_o (f : Nat) (args : List AV) (h : f ≠ 215) : T3 f args = T2 f args := by
  rw [T3, Orc.add_other _ _ _ _ _ h]
def crcJ (r : BitVec 32) (l : List UInt8) : BitVec 32 := ~~~ thr (~~~ r) l
theorem join_spec (r : BitVec 32) (l : List UInt8) (hl : l.length ≤ 2147483648) (st : St) : ASpec Try.prog 211 [u32 r, .sl .any (ofBytes l)] st fun v st' => v = u32 (crcJ r l) ∧ st' = st := by
  refine pure_of (R := fun v => v = _) T3s F211 rfl ?_
  simp (disch := omega) [c211, T3_215, crcJ]

noncomputable def T4 : Orc := T3.add 211 (tab (fun x : BitVec 32 × List UInt8 => [u32 x.1, .sl .any (ofBytes x.2)]) (fun x => u32 (crcJ x.1 x.2)) fun x => x.2.length ≤ 2147483648)
theorem T4s : OSound Try.prog T4 := T3s.tab fun x h st => join_spec x.1 x.2 h st
@[simp] theorem T4_211 (r : BitVec 32) (l : List UInt8) (h : l.length ≤ 2147483648) : T4 211 [u32 r, .sl .any (ofBytes l)] = some (u32 (crcJ r l)) := by
  rw [T4, Orc.add_same]
  exact tab_eq (fun x y h => by simp at h; simp [h]) (x := (r, l)) h
@[simp] theorem T4_o (f : Nat) (args : List AV) (h : f ≠ 211) : T4 f args = T3 f args := by
  rw [T4, Orc.add_other _ _ _ _ _ h]
def crc (l : List UInt8) : BitVec 32 := crcJ 0#32 l
theorem sum_spec (l : List UInt8) (hl : l.length ≤ 2147483648) (st : St) : ASpec Try.prog 180 [.sl .any (ofBytes l)] st fun v st' => v = u32 (crc l) ∧ st' = st := by
  refine pure_of (R := fun v => v = _) T4s F180 rfl ?_
  simp (disch := omega) [c180, T4_211, crc]

noncomputable def T5 : Orc := T4.add 180 (tab (fun x : List UInt8 => [.sl .any (ofBytes x)]) (fun x => u32 (crc x)) fun x => x.length ≤ 2147483648)
theorem T5s : OSound Try.prog T5 := T4s.tab fun x h st => sum_spec x h st
@[simp] theorem T5_180 (l : List UInt8) (h : l.length ≤ 2147483648) : T5 180 [.sl .any (ofBytes l)] = some (u32 (crc l)) := by
  rw [T5, Orc.add_same]
  exact tab_eq (fun x y h => by simp at h; simp [h]) (x := (l)) h
@[simp] theorem T5_o (f : Nat) (args : List AV) (h : f ≠ 180) : T5 f args = T4 f args := by
  rw [T5, Orc.add_other _ _ _ _ _ h]
def crcB (r : BitVec 32) : List UInt8 := [UInt8.ofBitVec (r.setWidth 8), UInt8.ofBitVec ((r >>> 8).setWidth 8), UInt8.ofBitVec ((r >>> 16).setWidth 8), UInt8.ofBitVec ((r >>> 24).setWidth 8)]
def seal_ (l : List UInt8) : List UInt8 := l ++ crcB (crc l)

theorem seal_spec (l : List UInt8) (hl : l.length ≤ 1048576) (st : St) : ASpec Try.prog 138 [.sl .any (ofBytes l)] st fun v st' => v = .sl .any (ofBytes (seal_ l)) ∧ st' = st := by
  refine pure_of (R := fun v => v = _) T5s F138 rfl ?_
  simp (disch := first | omega | (simp only [LL]; omega)) [WW, c138, T5_180]
  refine ⟨by omega, ?_⟩
  simp [seal_, crcB]

noncomputable def T6 : Orc := T5.add 138 (tab (fun x : List UInt8 => [.sl .any (ofBytes x)]) (fun x => .sl .any (ofBytes (seal_ x))) fun x => x.length ≤ 1048576)
theorem T6s : OSound Try.prog T6 := T5s.tab fun x h st => seal_spec x h st
@[simp] theorem T6_138 (l : List UInt8) (h : l.length ≤ 1048576) : T6 138 [.sl .any (ofBytes l)] = some (.sl .any (ofBytes (seal_ l))) := by
  rw [T6, Orc.add_same]
  exact tab_eq (fun x y h => by simp at h; simp [h]) (x := (l)) h
@[simp] theorem T6_o (f : Nat) (args : List AV) (h : f ≠ 138) : T6 f args = T5 f args := by
  rw [T6, Orc.add_other _ _ _ _ _ h]
theorem seal_length (l : List UInt8) : (seal_ l).length = l.length + 4 := by simp [seal_, crcB]

def openA (l : List UInt8) : AV := if 4 ≤ l.length ∧ crcB (crc (l.take (l.length - 4))) = l.drop (l.length - 4) then .tup [.sl .any (ofBytes (l.take (l.length - 4))), .bool true] else .tup [.sl .any [], .bool false]

theorem open_spec (l : List UInt8) (hl : l.length ≤ 1048576) (st : St) : ASpec Try.prog 182 [.sl .any (ofBytes l)] st fun v st' => v = openA l ∧ st' = st := by
  refine pure_of (R := fun v => v = _) T6s F182 rfl ?_
  by_cases h4 : 4 ≤ l.length
  case neg =>
    have h4' : (l.length : Int) - 4 < 0 := by omega
    simp (disch := first | omega | (simp only [LL]; omega)) [WW, c182]
    repeat' first
      | (refine region_static rfl (by decide +kernel) ?_; try simp (disch := first | omega | (simp only [LL]; omega)) [WW, h4', h4])
      | (refine And.intro (by omega) ?_; try simp (disch := first | omega | (simp only [LL]; omega)) [WW, h4', h4])
      | (refine guardK_ndec (fun h => ?_) (fun h => ?_) <;> (try simp (disch := first | omega | (simp only [LL]; omega)) [h, WW, h4', h4]))
      | (refine guardK_dec (fun h => ?_) (fun h => ?_) <;> (try simp (disch := first | omega | (simp only [LL]; omega)) [h, WW, h4', h4]))
      | (refine guardK_nbeq (fun h => ?_) (fun h => ?_) <;> (try simp (disch := first | omega | (simp only [LL]; omega)) [h, WW, h4', h4]))
      | (refine guardK_beq (fun h => ?_) (fun h => ?_) <;> (try simp (disch := first | omega | (simp only [LL]; omega)) [h, WW, h4', h4]))
      | (refine guardK_bne (fun h => ?_) (fun h => ?_) <;> (try simp (disch := first | omega | (simp only [LL]; omega)) [h, WW, h4', h4]))
      | (refine guardK_not (fun h => ?_) (fun h => ?_) <;> (try simp (disch := first | omega | (simp only [LL]; omega)) [h, WW, h4', h4]))
      | (refine guardK_split (fun h => ?_) (fun h => ?_) <;> (try simp (disch := first | omega | (simp only [LL]; omega)) [h, WW, h4', h4]))
      | (refine condK_ndec (fun h => ?_) (fun h => ?_) <;> (try simp (disch := first | omega | (simp only [LL]; omega)) [h, WW, h4', h4]))
      | (refine condK_dec (fun h => ?_) (fun h => ?_) <;> (try simp (disch := first | omega | (simp only [LL]; omega)) [h, WW, h4', h4]))
      | (refine condK_nbeq (fun h => ?_) (fun h => ?_) <;> (try simp (disch := first | omega | (simp only [LL]; omega)) [h, WW, h4', h4]))
      | (refine condK_beq (fun h => ?_) (fun h => ?_) <;> (try simp (disch := first | omega | (simp only [LL]; omega)) [h, WW, h4', h4]))
      | (refine condK_bne (fun h => ?_) (fun h => ?_) <;> (try simp (disch := first | omega | (simp only [LL]; omega)) [h, WW, h4', h4]))
      | (refine condK_not (fun h => ?_) (fun h => ?_) <;> (try simp (disch := first | omega | (simp only [LL]; omega)) [h, WW, h4', h4]))
      | (refine condK_split (fun h => ?_) (fun h => ?_) <;> (try simp (disch := first | omega | (simp only [LL]; omega)) [h, WW, h4', h4]))
    rw [openA, if_neg (fun h => h4 h.1)]
  obtain ⟨n, hn⟩ : ∃ n, l.length = n + 4 := ⟨l.length - 4, by omega⟩
  have h23 := T6_138 (l.take n) (by simp; omega)
  have hlt : (l.take n).length = n := by simp; omega
  have hs : ((seal_ (l.take n)).drop n).take ((seal_ (l.take n)).length - n) = crcB (crc (l.take n)) := by
    rw [seal_length, hlt, seal_, List.drop_append_of_le_length (by omega), List.drop_of_length_le (by omega)]
    simp [crcB]
  have hsl : n ≤ (seal_ (l.take n)).length := by rw [seal_length, hlt]; omega
  have ht4 : (l.drop n).take 4 = l.drop n := List.take_of_length_le (by simp; omega)
  have hA : openA l = if crcB (crc (l.take n)) = l.drop n then .tup [.sl .any (ofBytes (l.take n)), .bool true] else .tup [.sl .any [], .bool false] := by
    rw [openA, hn, show n + 4 - 4 = n by omega]
    simp
  have h0 : ¬ (n : Int) < 0 := by omega
  have h1 : (n : Int) ≤ n + 4 := by omega
  simp (disch := first | omega | (simp only [LL]; omega)) [WW, c182, hn, h0]
  repeat' first
    | (refine region_static rfl (by decide +kernel) ?_; try simp (disch := first | omega | (simp only [LL]; omega)) [WW, h0, h1, hn, h23, hs, hsl, ht4])
    | (refine And.intro (by omega) ?_; try simp (disch := first | omega | (simp only [LL]; omega)) [WW, h0, h1, hn, h23, hs, hsl, ht4])
    | (refine guardK_ndec (fun h => ?_) (fun h => ?_) <;> (try simp (disch := first | omega | (simp only [LL]; omega)) [h, WW, h0, h1, hn, h23, hs, hsl, ht4]))
    | (refine guardK_dec (fun h => ?_) (fun h => ?_) <;> (try simp (disch := first | omega | (simp only [LL]; omega)) [h, WW, h0, h1, hn, h23, hs, hsl, ht4]))
    | (refine guardK_nbeq (fun h => ?_) (fun h => ?_) <;> (try simp (disch := first | omega | (simp only [LL]; omega)) [h, WW, h0, h1, hn, h23, hs, hsl, ht4]))
    | (refine guardK_beq (fun h => ?_) (fun h => ?_) <;> (try simp (disch := first | omega | (simp only [LL]; omega)) [h, WW, h0, h1, hn, h23, hs, hsl, ht4]))
    | (refine guardK_bne (fun h => ?_) (fun h => ?_) <;> (try simp (disch := first | omega | (simp only [LL]; omega)) [h, WW, h0, h1, hn, h23, hs, hsl, ht4]))
    | (refine guardK_not (fun h => ?_) (fun h => ?_) <;> (try simp (disch := first | omega | (simp only [LL]; omega)) [h, WW, h0, h1, hn, h23, hs, hsl, ht4]))
    | (refine guardK_split (fun h => ?_) (fun h => ?_) <;> (try simp (disch := first | omega | (simp only [LL]; omega)) [h, WW, h0, h1, hn, h23, hs, hsl, ht4]))
    | (refine condK_ndec (fun h => ?_) (fun h => ?_) <;> (try simp (disch := first | omega | (simp only [LL]; omega)) [h, WW, h0, h1, hn, h23, hs, hsl, ht4]))
    | (refine condK_dec (fun h => ?_) (fun h => ?_) <;> (try simp (disch := first | omega | (simp only [LL]; omega)) [h, WW, h0, h1, hn, h23, hs, hsl, ht4]))
    | (refine condK_nbeq (fun h => ?_) (fun h => ?_) <;> (try simp (disch := first | omega | (simp only [LL]; omega)) [h, WW, h0, h1, hn, h23, hs, hsl, ht4]))
    | (refine condK_beq (fun h => ?_) (fun h => ?_) <;> (try simp (disch := first | omega | (simp only [LL]; omega)) [h, WW, h0, h1, hn, h23, hs, hsl, ht4]))
    | (refine condK_bne (fun h => ?_) (fun h => ?_) <;> (try simp (disch := first | omega | (simp only [LL]; omega)) [h, WW, h0, h1, hn, h23, hs, hsl, ht4]))
    | (refine condK_not (fun h => ?_) (fun h => ?_) <;> (try simp (disch := first | omega | (simp only [LL]; omega)) [h, WW, h0, h1, hn, h23, hs, hsl, ht4]))
    | (refine condK_split (fun h => ?_) (fun h => ?_) <;> (try simp (disch := first | omega | (simp only [LL]; omega)) [h, WW, h0, h1, hn, h23, hs, hsl, ht4]))
  · rw [hA, if_pos h]
  · rw [hA, if_neg h]

noncomputable def T7 : Orc := T6.add 182 (tab (fun x : List UInt8 => [.sl .any (ofBytes x)]) (fun x => openA x) fun x => x.length ≤ 1048576)
theorem T7s : OSound Try.prog T7 := T6s.tab fun x h st => open_spec x h st
@[simp] theorem T7_182 (l : List UInt8) (h : l.length ≤ 1048576) : T7 182 [.sl .any (ofBytes l)] = some (openA l) := by
  rw [T7, Orc.add_same]
  exact tab_eq (fun x y h => by simp at h; simp [h]) (x := (l)) h
@[simp] theorem T7_o (f : Nat) (args : List AV) (h : f ≠ 182) : T7 f args = T6 f args := by
  rw [T7, Orc.add_other _ _ _ _ _ h]
theorem and_one (a : BitVec 32) : a &&& 1#32 = if a.getLsbD 0 then 1#32 else 0#32 := by
  rw [BitVec.and_one_eq_setWidth_ofBool_getLsbD]
  cases a.getLsbD 0 <;> rfl

theorem step_eq (r : BitVec 32) : step r = r >>> 1 ^^^ (if r.getLsbD 0 then 3988292384#32 else 0#32) := by
  rw [step, and_one]
  cases r.getLsbD 0 <;> rfl

theorem step_if (r : BitVec 32) : step r = if r &&& 1#32 = 1#32 then r >>> 1 ^^^ 3988292384#32 else r >>> 1 := by
  rw [step_eq, and_one]
  cases r.getLsbD 0 <;> simp

theorem step_xor (a b : BitVec 32) : step (a ^^^ b) = step a ^^^ step b := by
  simp only [step_eq, BitVec.getLsbD_xor, BitVec.ushiftRight_xor_distrib]
  apply BitVec.eq_of_getLsbD_eq
  intro i _
  cases a.getLsbD 0 <;> cases b.getLsbD 0 <;> simp only [Bool.false_eq_true, if_true, if_false, Bool.xor_false, Bool.xor_true, Bool.not_false, Bool.not_true, BitVec.getLsbD_xor, BitVec.getLsbD_zero] <;>
    cases (a >>> 1).getLsbD i <;> cases (b >>> 1).getLsbD i <;> cases (3988292384#32).getLsbD i <;> rfl

theorem half_xor (a b : BitVec 32) : half (a ^^^ b) = half a ^^^ half b := by simp only [half, step_xor]

theorem step_even {a : BitVec 32} (h : a.getLsbD 0 = false) : step a = a >>> 1 := by
  rw [step_eq, h]
  simp

theorem half_high (x : BitVec 32) : half (x >>> 4 <<< 4) = x >>> 4 := by
  have e1 : step (x >>> 4 <<< 4) = x >>> 4 <<< 4 >>> 1 := step_even (by simp [BitVec.getLsbD_shiftLeft])
  have e2 : step (x >>> 4 <<< 4 >>> 1) = x >>> 4 <<< 4 >>> 1 >>> 1 := step_even (by simp [BitVec.getLsbD_shiftLeft])
  have e3 : step (x >>> 4 <<< 4 >>> 1 >>> 1) = x >>> 4 <<< 4 >>> 1 >>> 1 >>> 1 := step_even (by simp [BitVec.getLsbD_shiftLeft])
  have e4 : step (x >>> 4 <<< 4 >>> 1 >>> 1 >>> 1) = x >>> 4 <<< 4 >>> 1 >>> 1 >>> 1 >>> 1 := step_even (by simp [BitVec.getLsbD_shiftLeft])
  rw [half, e1, e2, e3, e4]
  apply BitVec.eq_of_getLsbD_eq
  intro i hi
  simp only [BitVec.getLsbD_ushiftRight, BitVec.getLsbD_shiftLeft]
  rw [show 1 + (1 + (1 + (1 + i))) = 4 + i by omega]
  by_cases h : 4 + i < 32
  · simp [h, show 4 + (4 + i - 4) = 4 + i by omega]
  · rw [BitVec.getLsbD_of_ge _ (4 + i) (by omega)]
    simp [h]

theorem parts (x : BitVec 32) : x = (x >>> 4 <<< 4) ^^^ (x &&& 15#32) := by
  have h15 : ∀ i, i < 32 → (15#32).getLsbD i = decide (i < 4) := by decide
  apply BitVec.eq_of_getLsbD_eq
  intro i hi
  simp only [BitVec.getLsbD_xor, BitVec.getLsbD_and, h15 i hi, BitVec.getLsbD_shiftLeft, BitVec.getLsbD_ushiftRight]
  by_cases h4 : i < 4
  · simp [h4]
  · simp [h4, hi, show 4 + (i - 4) = i by omega]

theorem nib_eq (x : BitVec 32) : nib x = half x := by
  rw [nib]
  conv => rhs; rw [parts x, half_xor, half_high]

/-- A remainder with a byte more, bit by bit. -/
def rem1 (r : BitVec 32) (b : UInt8) : BitVec 32 := steps 8 (r ^^^ b.toBitVec.setWidth 32)
theorem rem1_eq (r : BitVec 32) (b : UInt8) : rem1 r b = thr1 r b := by
  rw [thr1, nib_eq, nib_eq]
  rfl
theorem rem_spec (r : BitVec 32) (b : UInt8) (st : St) : ASpec Try.prog 216 [u32 r, u8 b] st fun v st' => v = u32 (thr1 r b) ∧ st' = st := by
  rw [← rem1_eq]
  refine pure_of (R := fun v => v = _) T7s F216 rfl ?_
  simp (disch := first | omega | (simp only [LL]; omega)) [WW, c216]
  refine awC_loop (fun k env s => ∃ i, k + i = 8 ∧ env 0 = u32 (steps i (r ^^^ b.toBitVec.setWidth 32)) ∧ env 5 = .int .i64 i ∧ s = st) 8 ?_ ?_
  · exact ⟨0, by simp [steps]⟩
  rintro k env s ⟨i, hk, h0, h5, rfl⟩
  by_cases hi : i < 8
  · have hi' : (i : Int) < 8 := by omega
    simp (disch := first | omega | (simp only [LL]; omega)) [WW, h0, h5, hi']
    repeat' first
      | (refine region_static rfl (by decide +kernel) ?_; try simp (disch := first | omega | (simp only [LL]; omega)) [WW, h0, h5])
      | (refine And.intro (by omega) ?_; try simp (disch := first | omega | (simp only [LL]; omega)) [WW, h0, h5])
      | (refine guardK_ndec (fun h => ?_) (fun h => ?_) <;> (try simp (disch := first | omega | (simp only [LL]; omega)) [h, WW, h0, h5]))
      | (refine guardK_dec (fun h => ?_) (fun h => ?_) <;> (try simp (disch := first | omega | (simp only [LL]; omega)) [h, WW, h0, h5]))
      | (refine guardK_nbeq (fun h => ?_) (fun h => ?_) <;> (try simp (disch := first | omega | (simp only [LL]; omega)) [h, WW, h0, h5]))
      | (refine guardK_beq (fun h => ?_) (fun h => ?_) <;> (try simp (disch := first | omega | (simp only [LL]; omega)) [h, WW, h0, h5]))
      | (refine guardK_bne (fun h => ?_) (fun h => ?_) <;> (try simp (disch := first | omega | (simp only [LL]; omega)) [h, WW, h0, h5]))
      | (refine guardK_not (fun h => ?_) (fun h => ?_) <;> (try simp (disch := first | omega | (simp only [LL]; omega)) [h, WW, h0, h5]))
      | (refine guardK_split (fun h => ?_) (fun h => ?_) <;> (try simp (disch := first | omega | (simp only [LL]; omega)) [h, WW, h0, h5]))
      | (refine condK_ndec (fun h => ?_) (fun h => ?_) <;> (try simp (disch := first | omega | (simp only [LL]; omega)) [h, WW, h0, h5]))
      | (refine condK_dec (fun h => ?_) (fun h => ?_) <;> (try simp (disch := first | omega | (simp only [LL]; omega)) [h, WW, h0, h5]))
      | (refine condK_nbeq (fun h => ?_) (fun h => ?_) <;> (try simp (disch := first | omega | (simp only [LL]; omega)) [h, WW, h0, h5]))
      | (refine condK_beq (fun h => ?_) (fun h => ?_) <;> (try simp (disch := first | omega | (simp only [LL]; omega)) [h, WW, h0, h5]))
      | (refine condK_bne (fun h => ?_) (fun h => ?_) <;> (try simp (disch := first | omega | (simp only [LL]; omega)) [h, WW, h0, h5]))
      | (refine condK_not (fun h => ?_) (fun h => ?_) <;> (try simp (disch := first | omega | (simp only [LL]; omega)) [h, WW, h0, h5]))
      | (refine condK_split (fun h => ?_) (fun h => ?_) <;> (try simp (disch := first | omega | (simp only [LL]; omega)) [h, WW, h0, h5]))
    all_goals
      refine ⟨k - 1, by omega, [0, 5], _, .pop (by simp) (by simp) (by simp), i + 1, by omega, ?_⟩
      simp [steps, step_if, *]
  · have hi' : ¬ (i : Int) < 8 := by omega
    have : i = 8 := by omega
    subst this
    simp (disch := first | omega | (simp only [LL]; omega)) [WW, h0, h5, rem1]

noncomputable def T8 : Orc := T7.add 216 (tab (fun x : BitVec 32 × UInt8 => [u32 x.1, u8 x.2]) (fun x => u32 (thr1 x.1 x.2)) fun x => True)
theorem T8s : OSound Try.prog T8 := T7s.tab fun x h st => rem_spec x.1 x.2 st
@[simp] theorem T8_216 (r : BitVec 32) (b : UInt8) : T8 216 [u32 r, u8 b] = some (u32 (thr1 r b)) := by
  rw [T8, Orc.add_same]
  exact tab_eq (fun x y h => by simp at h; simp [h]) (x := (r, b)) trivial
@[simp] theorem T8_o (f : Nat) (args : List AV) (h : f ≠ 216) : T8 f args = T7 f args := by
  rw [T8, Orc.add_other _ _ _ _ _ h]
theorem rjoin_spec (r : BitVec 32) (l : List UInt8) (hl : l.length ≤ 2147483648) (st : St) : ASpec Try.prog 212 [u32 r, .sl .any (ofBytes l)] st fun v st' => v = u32 (crcJ r l) ∧ st' = st := by
  refine pure_of (R := fun v => v = _) T8s F212 rfl ?_
  simp (disch := first | omega | (simp only [LL]; omega)) [WW, c212]
  refine awC_loop (fun k env s => ∃ i, k + i = l.length ∧ env 1 = .sl .any (ofBytes l) ∧ env 5 = u32 (thr (~~~r) (l.take i)) ∧ env 6 = .int .i64 i ∧ s = st) l.length ?_ ?_
  · exact ⟨0, by simp [thr]⟩
  rintro k env s ⟨i, hk, h1, h5, h6, rfl⟩
  by_cases hi : i < l.length
  · have hi' : (i : Int) < l.length := by omega
    simp (disch := first | omega | (simp only [LL]; omega)) [WW, h1, h5, h6, hi, hi', T8_216]
    refine ⟨k - 1, by omega, [1, 5, 6], _, .pop (by simp) (by simp) (by simp [h1]), i + 1, by omega, ?_⟩
    simp [h1, thr_take _ _ _ hi]
  · have hi' : ¬ (i : Int) < l.length := by omega
    simp (disch := first | omega | (simp only [LL]; omega)) [WW, h1, h5, h6, hi, hi', List.take_of_length_le, crcJ]

noncomputable def T9 : Orc := T8.add 212 (tab (fun x : BitVec 32 × List UInt8 => [u32 x.1, .sl .any (ofBytes x.2)]) (fun x => u32 (crcJ x.1 x.2)) fun x => x.2.length ≤ 2147483648)
theorem T9s : OSound Try.prog T9 := T8s.tab fun x h st => rjoin_spec x.1 x.2 h st
@[simp] theorem T9_212 (r : BitVec 32) (l : List UInt8) (h : l.length ≤ 2147483648) : T9 212 [u32 r, .sl .any (ofBytes l)] = some (u32 (crcJ r l)) := by
  rw [T9, Orc.add_same]
  exact tab_eq (fun x y h => by simp at h; simp [h]) (x := (r, l)) h
@[simp] theorem T9_o (f : Nat) (args : List AV) (h : f ≠ 212) : T9 f args = T8 f args := by
  rw [T9, Orc.add_other _ _ _ _ _ h]
theorem rsum_spec (l : List UInt8) (hl : l.length ≤ 2147483648) (st : St) : ASpec Try.prog 181 [.sl .any (ofBytes l)] st fun v st' => v = u32 (crc l) ∧ st' = st := by
  refine pure_of (R := fun v => v = _) T9s F181 rfl ?_
  simp (disch := first | omega | (simp only [LL]; omega)) [WW, c181, T9_212, crc]

noncomputable def T10 : Orc := T9.add 181 (tab (fun x : List UInt8 => [.sl .any (ofBytes x)]) (fun x => u32 (crc x)) fun x => x.length ≤ 2147483648)
theorem T10s : OSound Try.prog T10 := T9s.tab fun x h st => rsum_spec x h st
@[simp] theorem T10_181 (l : List UInt8) (h : l.length ≤ 2147483648) : T10 181 [.sl .any (ofBytes l)] = some (u32 (crc l)) := by
  rw [T10, Orc.add_same]
  exact tab_eq (fun x y h => by simp at h; simp [h]) (x := (l)) h
@[simp] theorem T10_o (f : Nat) (args : List AV) (h : f ≠ 181) : T10 f args = T9 f args := by
  rw [T10, Orc.add_other _ _ _ _ _ h]
theorem ropen_spec (l : List UInt8) (hl : l.length ≤ 1048576) (st : St) : ASpec Try.prog 147 [.sl .any (ofBytes l)] st fun v st' => v = openA l ∧ st' = st := by
  refine pure_of (R := fun v => v = _) T10s F147 rfl ?_
  by_cases h4 : 4 ≤ l.length
  case neg =>
    have h4' : (l.length : Int) < 4 := by omega
    simp (disch := first | omega | (simp only [LL]; omega)) [WW, c147, h4']
    rw [openA, if_neg (fun h => h4 h.1)]
  obtain ⟨n, hn⟩ : ∃ n, l.length = n + 4 := ⟨l.length - 4, by omega⟩
  have h4' : ¬ (l.length : Int) < 4 := by omega
  obtain ⟨b0, g0⟩ : ∃ b, l[n]'(by omega) = b := ⟨_, rfl⟩
  obtain ⟨b1, g1⟩ : ∃ b, l[n + 1]'(by omega) = b := ⟨_, rfl⟩
  obtain ⟨b2, g2⟩ : ∃ b, l[n + 2]'(by omega) = b := ⟨_, rfl⟩
  obtain ⟨b3, g3⟩ : ∃ b, l[n + 3]'(by omega) = b := ⟨_, rfl⟩
  have hd : l.drop n = [b0, b1, b2, b3] := by
    rw [List.drop_eq_getElem_cons (by omega), List.drop_eq_getElem_cons (by omega), List.drop_eq_getElem_cons (by omega), List.drop_eq_getElem_cons (by omega), List.drop_of_length_le (by omega), g0, g1, g2, g3]
  have hA : openA l = if crcB (crc (l.take n)) = [b0, b1, b2, b3] then .tup [.sl .any (ofBytes (l.take n)), .bool true] else .tup [.sl .any [], .bool false] := by
    rw [openA, hn, show n + 4 - 4 = n by omega, hd]
    simp
  have i2 : ((n : Int) + 2).toNat = n + 2 := by omega
  have i3 : ((n : Int) + 3).toNat = n + 3 := by omega
  have h4'' : ¬ (n : Int) + 4 < 4 := by omega
  simp (disch := first | omega | (simp only [LL]; omega)) [WW, c147, h4', h4'', hA, hn]
  repeat' first
    | (refine region_static rfl (by decide +kernel) ?_; try simp (disch := first | omega | (simp only [LL]; omega)) [WW, h4', hA, hn, i2, i3, g0, g1, g2, g3])
    | (refine And.intro (by omega) ?_; try simp (disch := first | omega | (simp only [LL]; omega)) [WW, h4', hA, hn, i2, i3, g0, g1, g2, g3])
    | (refine guardK_ndec (fun h => ?_) (fun h => ?_) <;> (try simp (disch := first | omega | (simp only [LL]; omega)) [h, WW, h4', hA, hn, i2, i3, g0, g1, g2, g3]))
    | (refine guardK_dec (fun h => ?_) (fun h => ?_) <;> (try simp (disch := first | omega | (simp only [LL]; omega)) [h, WW, h4', hA, hn, i2, i3, g0, g1, g2, g3]))
    | (refine guardK_nbeq (fun h => ?_) (fun h => ?_) <;> (try simp (disch := first | omega | (simp only [LL]; omega)) [h, WW, h4', hA, hn, i2, i3, g0, g1, g2, g3]))
    | (refine guardK_beq (fun h => ?_) (fun h => ?_) <;> (try simp (disch := first | omega | (simp only [LL]; omega)) [h, WW, h4', hA, hn, i2, i3, g0, g1, g2, g3]))
    | (refine guardK_bne (fun h => ?_) (fun h => ?_) <;> (try simp (disch := first | omega | (simp only [LL]; omega)) [h, WW, h4', hA, hn, i2, i3, g0, g1, g2, g3]))
    | (refine guardK_not (fun h => ?_) (fun h => ?_) <;> (try simp (disch := first | omega | (simp only [LL]; omega)) [h, WW, h4', hA, hn, i2, i3, g0, g1, g2, g3]))
    | (refine guardK_split (fun h => ?_) (fun h => ?_) <;> (try simp (disch := first | omega | (simp only [LL]; omega)) [h, WW, h4', hA, hn, i2, i3, g0, g1, g2, g3]))
    | (refine condK_ndec (fun h => ?_) (fun h => ?_) <;> (try simp (disch := first | omega | (simp only [LL]; omega)) [h, WW, h4', hA, hn, i2, i3, g0, g1, g2, g3]))
    | (refine condK_dec (fun h => ?_) (fun h => ?_) <;> (try simp (disch := first | omega | (simp only [LL]; omega)) [h, WW, h4', hA, hn, i2, i3, g0, g1, g2, g3]))
    | (refine condK_nbeq (fun h => ?_) (fun h => ?_) <;> (try simp (disch := first | omega | (simp only [LL]; omega)) [h, WW, h4', hA, hn, i2, i3, g0, g1, g2, g3]))
    | (refine condK_beq (fun h => ?_) (fun h => ?_) <;> (try simp (disch := first | omega | (simp only [LL]; omega)) [h, WW, h4', hA, hn, i2, i3, g0, g1, g2, g3]))
    | (refine condK_bne (fun h => ?_) (fun h => ?_) <;> (try simp (disch := first | omega | (simp only [LL]; omega)) [h, WW, h4', hA, hn, i2, i3, g0, g1, g2, g3]))
    | (refine condK_not (fun h => ?_) (fun h => ?_) <;> (try simp (disch := first | omega | (simp only [LL]; omega)) [h, WW, h4', hA, hn, i2, i3, g0, g1, g2, g3]))
    | (refine condK_split (fun h => ?_) (fun h => ?_) <;> (try simp (disch := first | omega | (simp only [LL]; omega)) [h, WW, h4', hA, hn, i2, i3, g0, g1, g2, g3]))
  all_goals (simp [crcB, *]; try (intro hh; simp_all))
noncomputable def T11 : Orc := T10.add 147 (tab (fun x : List UInt8 => [.sl .any (ofBytes x)]) (fun x => openA x) fun x => x.length ≤ 1048576)
theorem T11s : OSound Try.prog T11 := T10s.tab fun x h st => ropen_spec x h st
@[simp] theorem T11_147 (l : List UInt8) (h : l.length ≤ 1048576) : T11 147 [.sl .any (ofBytes l)] = some (openA l) := by
  rw [T11, Orc.add_same]
  exact tab_eq (fun x y h => by simp at h; simp [h]) (x := (l)) h
@[simp] theorem T11_o (f : Nat) (args : List AV) (h : f ≠ 147) : T11 f args = T10 f args := by
  rw [T11, Orc.add_other _ _ _ _ _ h]
end Go.Proofs.Ytjceilhmgbdgiaa

/- Messages: which may be, the program's. -/
import Derived.Test.YtjceilhmgbdgiaaZJ
set_option linter.all false
namespace Go.Proofs.Ytjceilhmgbdgiaa
open Go.Am

/-- A message's head, alone. -/
def hdM (m : Ms) : Ms := ⟨m.kind, m.fr, m.to, m.inc, m.your, ⟨0, 0, 0⟩, 0, 0, 0, zV, 0, false, 0, 0, []⟩
def getAll (fs : List Fd) (m x : Ms) : Ms := fs.foldl (fun x f => setF f m x) x
theorem getAll_succ (fs : List Fd) (m x : Ms) {i : Nat} (h : i < fs.length) : getAll (fs.take (i + 1)) m x = setF fs[i] m (getAll (fs.take i) m x) := by
  rw [List.take_succ_eq_append_getElem h, getAll, List.foldl_append]
  rfl
theorem catF_drop (fs : List Fd) (m : Ms) {i : Nat} (h : i < fs.length) : catF (fs.drop i) m = putF fs[i] m ++ catF (fs.drop (i + 1)) m := by
  rw [catF, List.drop_eq_getElem_cons h]
  rfl
theorem setF_ws {f : Fd} {m x : Ms} (h : f ≠ .writes) : (setF f m x).ws = x.ws := by
  cases f <;> first | rfl | exact absurd rfl h
theorem catF_len {fs : List Fd} {m : Ms} (ho : ∀ f ∈ fs, okG f m) : (catF fs m).length ≤ 73 * fs.length := by
  induction fs with
  | nil => simp [catF]
  | cons f fs ih =>
    have h1 := putF_len (ho f (by simp))
    have h2 := ih fun g hg => ho g (by simp [hg])
    simp only [catF, List.map_cons, List.flatten_cons, List.length_append, List.length_cons] at h2 ⊢
    omega
theorem fields_form (k : Int) : (fieldsOf k = [] ∨ ∃ r, fieldsOf k = .name :: r ∧ .name ∉ r) ∧ (fieldsOf k).length ≤ 5 ∧ ∀ i (h : i + 1 < (fieldsOf k).length), (fieldsOf k)[i]'(by omega) ≠ .writes := by
  unfold fieldsOf
  repeat' split
  all_goals refine ⟨by simp, by simp, fun i h => ?_⟩
  all_goals (simp only [List.length_cons, List.length_nil] at h)
  all_goals first
    | omega
    | (obtain rfl | rfl | rfl | rfl : i = 0 ∨ i = 1 ∨ i = 2 ∨ i = 3 := by omega) <;> first | (exfalso; omega) | (simp; done) | skip
/-- Memory, while a message is read back: m's, its kind's, the other's, the reader's. -/
def mI (m : Ms) (fs : List Fd) (k1 k2 : Blk) (st : St) (x r : Blk) (g : List Blk) : List Blk :=
  st.heap ++ (mB m :: k1 :: k2 :: .cells false [fnA 172] :: .cells false [.bool (downK m.kind), .sl .clip (fds fs), suchV m.kind (st.heap.length + 1 + 2)] :: x :: r :: g)
def MI (m : Ms) (fs : List Fd) (k1 k2 : Blk) (st : St) (j : Nat) (env : Env) (s : St) : Prop :=
  ∃ i g tk gt, j + i = fs.length ∧ env 1 = .ptr st.heap.length 0 ∧ env 5 = .ptr (st.heap.length + 5) 0 ∧ env 6 = .ptr (st.heap.length + 6) 0 ∧ env 88 = .sl .clip (fds fs) ∧ env 89 = .int .i64 fs.length ∧ env 90 = .int .i64 i ∧
    s = ⟨mI m fs k1 k2 st (mBt tk (getAll (fs.take i) m (hdM m))) (gB (catF (fs.drop i) m, false)) g, st.toks ++ gt⟩ ∧ (i < fs.length → tk = .clip ∧ (getAll (fs.take i) m (hdM m)).ws = [])
theorem may_kind {m : Ms} (hk : 1 ≤ m.kind ∧ m.kind ≤ 11) (hl : m.ws.length ≤ 1048576) (hh : headM m = true) (hn : fieldsOf m.kind = [] ∨ named m.nm = true) (hg : suchM m = true → ∀ f ∈ fieldsOf m.kind, okG f m) (st : St) :
    ASpec Try.prog 64 [.agg (msC m)] st fun v st' => v = .bool (suchM m && decide (m = getAll (fieldsOf m.kind) m (hdM m))) ∧ st' = st := by
  refine pure_of (R := fun v => v = _) C3s F64 rfl ?_
  have hh' : (0 ≤ m.fr ∧ m.fr ≤ 4) ∧ (0 ≤ m.to ∧ m.to ≤ 4) ∧ (1 ≤ m.inc ∧ m.inc ≤ 1048576) ∧ (0 ≤ m.your ∧ m.your ≤ 1048576) ∧ decide (m.to = 0) = !decide (m.fr = 0) ∧ downK m.kind = decide (m.fr = 0) := by
    unfold headM at hh
    simp only [decide_eq_true_eq] at hh
    refine ⟨by omega, by omega, by omega, by omega, ?_, ?_⟩
    · have := hh.2.1
      by_cases h : m.fr = 0 <;> simp [h] at this ⊢ <;> exact this
    · rw [Bool.eq_iff_iff, hh.2.2.1]; simp
  obtain ⟨b1, b2, b3, b4, b5, b6⟩ := hh'
  have w1 := within_iff.2 b1
  have w2 := within_iff.2 b2
  have w3 := within_iff.2 b3
  have w4 := within_iff.2 b4
  simp (disch := first | omega | (simp only [LL]; omega)) [WW, c64]
  refine (kind_spec m.kind hk _).mono ?_
  rintro _ _ ⟨rfl, k1, k2, rfl⟩
  simp (disch := first | omega | (simp only [LL]; omega)) [WW, w1, w2, w3, w4, b5, b6]
  refine such_call hl (by simp [mB]) (by rw [show st.heap.length + 1 + 2 = st.heap.length + 3 by omega]; simp) ?_
  cases hs : suchM m with
  | false =>
    simp (disch := first | omega | (simp only [LL]; omega)) [WW]
  | true =>
    have hg := hg hs
    obtain ⟨hf1, hf2, hf3⟩ := fields_form m.kind
    obtain ⟨fs, hfs⟩ : ∃ fs, fieldsOf m.kind = fs := ⟨_, rfl⟩
    simp only [hfs] at hn hg hf1 hf2 hf3 ⊢
    clear hs b1 b2 b3 b4 b5 w1 w2 w3 w4 hh
    by_cases h0 : 0 < fs.length
    case' pos =>
      have hn : named m.nm = true := hn.resolve_left (by intro h; rw [h] at h0; simp at h0)
      simp (disch := first | omega | (simp only [LL]; omega)) [WW, h0, hn]
    case' neg =>
      simp (disch := first | omega | (simp only [LL]; omega)) [WW, h0]
    all_goals
      clear hn h0
      refine (body_spec (fs := fs) (m := m) (d := decide (m.fr = 0)) (sv := suchV m.kind (st.heap.length + 1 + 2)) (by omega) hf1 (fun f hf => okF_of (hg f hf)) (fun i => ?_) (by simp [kB]) (by simp [mB])).mono ?_
      · have := catF_len (fs := fs.take i) fun f hf => hg f (List.mem_of_mem_take hf)
        simp only [List.length_take] at this
        omega
      rintro _ _ ⟨rfl, rfl⟩
      simp (disch := first | omega | (simp only [LL]; omega)) [WW]
      refine awC_loopW (MI m fs k1 k2 st) fs.length ?_ ?_
      · refine ⟨0, [], .clip, [], rfl, by simp, by simp, by simp, by simp, by simp, by simp, ?_, fun _ => ⟨rfl, rfl⟩⟩
        simp [mI, mB, mBt, gB, hdM, zV, getAll, b6, u8]
      rintro j env s ⟨i, g, tk, gt, hj, e1, e5, e6, e88, e89, e90, rfl, hcl⟩
      by_cases hi : i < fs.length
      · obtain ⟨rfl, hx⟩ := hcl hi
        have hi' : (i : Int) < fs.length := by omega
        simp (disch := first | omega | (simp only [LL]; omega)) [WW, e1, e5, e6, e88, e89, e90, hi', hi, fdA, -putV, -getV, mI]
        have hsp := catF_drop fs m hi
        refine get_call (f := fs[i]) (m := m) (x := getAll (fs.take i) m (hdM m)) (t := catF (fs.drop (i + 1)) m) (hg _ (List.getElem_mem hi)) hx (by omega) ?_ (by simp [hsp]) (by simp) ?_
        · have := catF_len (fs := fs.drop (i + 1)) fun f hf => hg f (List.mem_of_mem_drop hf)
          simp only [List.length_drop] at this
          omega
        rintro tk' g' gt' htk
        have hga := getAll_succ fs m (hdM m) hi
        simp (disch := first | omega | (simp only [LL]; omega)) [WW, e1, e5, e6, e88, e89, e90, -putV, -getV]
        refine ⟨j - 1, by omega, i + 1, g ++ .cells false [putV fs[i], getV fs[i]] :: g', tk', gt ++ gt', by omega, by simp [e1], by simp [e5], by simp [e6], by simp [e88], by simp [e89], by simp, ?_, ?_⟩
        · simp [mI, hga, -putV, -getV]
        · intro hlt
          have hne := hf3 i hlt
          exact ⟨htk hne, by rw [hga, setF_ws hne, hx]⟩
      · have hi' : ¬ (i : Int) < fs.length := by omega
        have hM : ∀ t m, mBt t m = .cells false [.int .i8 m.kind, .int .i64 m.fr, .int .i64 m.to, .int .i64 m.inc, .int .i64 m.your, .int .i64 m.nm.stamp, .int .i64 m.nm.inc, .int .i64 m.nm.tr, .int .i64 m.n, .int .i8 m.op, .int .i64 m.block, u8 m.val.v0, u8 m.val.v1, u8 m.val.v2, u8 m.val.v3, u8 m.val.v4, u8 m.val.v5, u8 m.val.v6, u8 m.val.v7, .int .i64 m.e, .bool m.yes, .int .i64 m.give, .int .i64 m.take, .sl t (wrs m.ws)] := fun _ _ => rfl
        have hB : mB m = .cells false (msC m) := rfl
        rw [List.take_of_length_le (by omega)]
        clear hcl
        obtain ⟨y, hy⟩ : ∃ y, getAll fs m (hdM m) = y := ⟨_, rfl⟩
        rw [hy]
        simp (disch := first | omega | (simp only [LL]; omega)) [WW, e1, e5, e6, e88, e89, e90, hi', mI, hB, hM, hl]
end Go.Proofs.Ytjceilhmgbdgiaa

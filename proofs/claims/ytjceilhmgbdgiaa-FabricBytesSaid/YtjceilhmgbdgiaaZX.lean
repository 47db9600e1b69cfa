/- Messages: the program's reader, with too few bytes. -/
import Derived.Test.YtjceilhmgbdgiaaZW
set_option linter.all false
namespace Go.Proofs.Ytjceilhmgbdgiaa
open Go.Am

/-- The reader's block; f: it has failed (its slice is nil then). -/
def gF (f : Bool) (s : RS) : Blk := .cells false [.sl (if f then .clip else .any) (ofBytes s.1), .bool s.2]
def fOk (f : Bool) (s : RS) : Prop := f = true → s = ([], true)
theorem gF_false (s : RS) : gF false s = gB s := rfl
theorem first_bad {l : List UInt8} {t : Tok} {n : Nat} (hn : l.length < n) (hl : n ≤ 100) (st : St) : ASpec Try.prog 214 [.sl t (ofBytes l), .int .i64 n] st fun v st' => v = .tup [.msl st.heap.length 0 n none, .sl .clip [], .bool false] ∧ st' = ⟨st.heap ++ [.cells false (ofBytes (z8 n))], st.toks⟩ := by
  refine raw_of T12s F214 rfl ?_
  have h1 : (l.length : Int) < n := by omega
  simp (disch := first | omega | (simp only [LL]; omega)) [WW, c214, h1]
  exact ⟨by omega, .inl ⟨by simp, by simp, rfl, rfl⟩⟩
def numP (n : Nat) (s : RS) : Int × RS := if s.1.length < n then (0, ([], true)) else (leV (s.1.take n), (s.1.drop n, s.2))
theorem take_bad {n : Nat} {f : Bool} {s : RS} {g : Nat} {st : St} (hn : s.1.length < n) (h100 : n ≤ 100) (hg : st.heap[g]? = some (gF f s)) : ASpec Try.prog 200 [.ptr g 0, .int .i64 n] st fun v st' => v = .msl st.heap.length 0 n none ∧ st' = ⟨st.heap.set g (gF true ([], true)) ++ [.cells false (ofBytes (z8 n))], st.toks⟩ := by
  refine raw_of T12s F200 rfl ?_
  obtain ⟨f1, f2, f3, f4, f5⟩ := at_facts hg
  have hG : ∀ f s, gF f s = .cells false [.sl (if f then .clip else .any) (ofBytes s.1), .bool s.2] := fun _ _ => rfl
  rw [hG] at hg
  simp (disch := first | omega | (simp only [LL]; omega)) [WW, c200, hg]
  refine (first_bad (l := s.1) hn h100 _).mono ?_
  rintro _ _ ⟨rfl, rfl⟩
  rw [hG] at f1
  simp (disch := first | omega | (simp only [LL]; omega)) [WW, f1, f4]
  obtain ⟨l, bad⟩ := s
  cases bad
  · simp (disch := first | omega | (simp only [LL]; omega)) [WW, f1, f2, f4, f5]
    exact .inl ⟨by simp, by simp, rfl, rfl⟩
  · simp (disch := first | omega | (simp only [LL]; omega)) [WW, f1, f2, f4, f5]
    exact .inl ⟨by simp, by simp, rfl, rfl⟩
theorem num_bad {n : Nat} {f : Bool} {s : RS} {g : Nat} {st : St} (hn : s.1.length < n) (h3 : n = 1 ∨ n = 2 ∨ n = 3) (hg : st.heap[g]? = some (gF f s)) : ASpec Try.prog 183 [.ptr g 0, .int .i64 n] st fun v st' => v = .int .i64 0 ∧ st' = ⟨st.heap.set g (gF true ([], true)), st.toks⟩ := by
  refine raw_of T12s F183 rfl ?_
  obtain ⟨f1, f2, f3, f4, f5⟩ := at_facts hg
  simp (disch := first | omega | (simp only [LL]; omega)) [WW, c183]
  refine (take_bad hn (by omega) hg).mono ?_
  rintro _ _ ⟨rfl, rfl⟩
  have z0 : intBin .or .i64 0 0 = some (.int .i64 0) := rfl
  have s0 : ∀ k : Nat, k ≤ 16 → shiftBin .shl .i64 0 k = some (.int .i64 0) := fun k hk => by
    have := shl_nn 0 k k (by decide) rfl (by omega) (by simp)
    simpa using this
  have s00 : shiftBin .shl .i64 0 0 = some (.int .i64 0) := s0 0 (by decide)
  have s08 : shiftBin .shl .i64 0 8 = some (.int .i64 0) := s0 8 (by decide)
  have s016 : shiftBin .shl .i64 0 16 = some (.int .i64 0) := s0 16 (by decide)
  clear s0
  have e : ∀ v (b : Blk), (st.heap.set g v ++ [b])[st.heap.length]? = some b := fun v b => by
    rw [List.getElem?_append_right (by simp)]; simp
  rcases h3 with rfl | rfl | rfl
  · refine awC_loopU 2 ?_
    simp (disch := first | omega | (simp only [LL]; omega)) [WW, e, z8, z0, s00, s08, s016]
    exact fin_set (by simp [gF]) (by simp) ⟨rfl, rfl⟩
  · refine awC_loopU 3 ?_
    simp (disch := first | omega | (simp only [LL]; omega)) [WW, e, z8, z0, s00, s08, s016]
    exact fin_set (by simp [gF]) (by simp) ⟨rfl, rfl⟩
  · refine awC_loopU 4 ?_
    simp (disch := first | omega | (simp only [LL]; omega)) [WW, e, z8, z0, s00, s08, s016]
    exact fin_set (by simp [gF]) (by simp) ⟨rfl, rfl⟩
end Go.Proofs.Ytjceilhmgbdgiaa

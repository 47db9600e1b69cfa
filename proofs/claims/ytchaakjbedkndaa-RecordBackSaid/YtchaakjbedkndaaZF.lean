/- Records: the program's writer. -/
import Derived.Test.YtchaakjbedkndaaZE
set_option linter.all false
namespace Go.Proofs.Ytchaakjbedkndaa
open Go.Am

def ints (l : List Int) : List AV := l.map fun n => .int .i64 n
def obs (l : List Int) : List UInt8 := l.map UInt8.ofInt
@[simp] theorem ints_length (l : List Int) : (ints l).length = l.length := by simp [ints]
@[simp] theorem ints_get (l : List Int) (i : Nat) : (ints l)[i]? = l[i]?.map fun n => .int .i64 n := by simp [ints]
theorem obs_succ (l : List Int) (i : Nat) (h : i < l.length) : obs (l.take (i + 1)) = obs (l.take i) ++ [UInt8.ofInt l[i]] := by
  rw [List.take_succ_eq_append_getElem h, obs, List.map_append]
  rfl
theorem obs_len (l : List Int) : (obs l).length = l.length := by simp [obs]
def wB (k : Nat) (bs : List UInt8) : Blk := .cells false [.sl (.own k) (ofBytes bs)]
def BI (w k : Nat) (t : Tok) (bs : List UInt8) (ns : List Int) (st : St) (j : Nat) (env : Env) (s : St) : Prop :=
  ∃ i, j + i = ns.length ∧ env 0 = .ptr w 0 ∧ env 6 = .sl t (ints ns) ∧ env 7 = .int .i64 ns.length ∧ env 8 = .int .i64 i ∧ s = ⟨st.heap.set w (wB k (bs ++ obs (ns.take i))), st.toks.set k (bs.length + i, 1)⟩
theorem bytes_own {w k : Nat} {t : Tok} {bs : List UInt8} {ns : List Int} {st : St} (hl : st.heap[w]? = some (wB k bs)) (hk : st.toks[k]? = some (bs.length, 1)) (hb : bs.length ≤ 100000) (hn : ns.length ≤ 100000) :
    ASpec Try.prog 68 [.ptr w 0, .sl t (ints ns)] st fun v st' => v = .tup [] ∧ st' = ⟨st.heap.set w (wB k (bs ++ obs ns)), st.toks.set k (bs.length + ns.length, 1)⟩ := by
  refine raw_of C4s F68 rfl ?_
  obtain ⟨f1, f2, f3, f4, f5⟩ := at_facts hl
  have hkl := (List.getElem?_eq_some_iff.1 hk).1
  have g1 : ∀ v, (st.toks.set k v)[k]? = some v := fun v => List.getElem?_set_self hkl
  simp (disch := first | omega | (simp only [List.length_take, List.length_drop, List.length_append, List.length_cons, List.length_nil, List.length_map]; omega)) [IntWalk.i64_in, IntWalk.i64_quo, c68]
  refine awC_loopW (BI w k t bs ns st) ns.length ?_ ?_
  · refine ⟨0, rfl, by simp, by simp, by simp, by simp, ?_⟩
    have e1 : st.heap.set w (wB k bs) = st.heap := by
      obtain ⟨h1, h2⟩ := List.getElem?_eq_some_iff.1 hl
      rw [← h2]
      exact List.set_getElem_self h1
    have e2 : st.toks.set k (bs.length, 1) = st.toks := by
      obtain ⟨h1, h2⟩ := List.getElem?_eq_some_iff.1 hk
      rw [← h2]
      exact List.set_getElem_self h1
    simp [obs, e1, e2]
  rintro j env s ⟨i, hj, e0, e6, e7, e8, rfl⟩
  have hol := obs_len (ns.take i)
  rw [List.length_take] at hol
  by_cases hi : i < ns.length
  · have hi' : (i : Int) < ns.length := by omega
    have hlen : bs.length + (obs (ns.take i)).length = bs.length + i := by omega
    have hW : ∀ b, wB k b = .cells false [.sl (.own k) (ofBytes b)] := fun _ => rfl
    clear hkl hl hk
    simp (disch := first | omega | (simp only [List.length_take, List.length_drop, List.length_append, List.length_cons, List.length_nil, List.length_map]; omega)) [IntWalk.i64_in, IntWalk.i64_quo, e0, e6, e7, e8, hi', hi, f3, g1, hlen, hW]
    repeat' first
      | (refine region_static rfl (by decide +kernel) ?_; try simp (disch := first | omega | (simp only [List.length_take, List.length_drop, List.length_append, List.length_cons, List.length_nil, List.length_map]; omega)) [IntWalk.i64_in, IntWalk.i64_quo, e0, e6, e7, e8, hi', hi, f3, g1, hlen, hW])
      | (refine And.intro (by omega) ?_; try simp (disch := first | omega | (simp only [List.length_take, List.length_drop, List.length_append, List.length_cons, List.length_nil, List.length_map]; omega)) [IntWalk.i64_in, IntWalk.i64_quo, e0, e6, e7, e8, hi', hi, f3, g1, hlen, hW])
      | (refine guardK_ndec (fun h => ?_) (fun h => ?_) <;> (try simp (disch := first | omega | (simp only [List.length_take, List.length_drop, List.length_append, List.length_cons, List.length_nil, List.length_map]; omega)) [h, IntWalk.i64_in, IntWalk.i64_quo, e0, e6, e7, e8, hi', hi, f3, g1, hlen, hW]))
      | (refine guardK_dec (fun h => ?_) (fun h => ?_) <;> (try simp (disch := first | omega | (simp only [List.length_take, List.length_drop, List.length_append, List.length_cons, List.length_nil, List.length_map]; omega)) [h, IntWalk.i64_in, IntWalk.i64_quo, e0, e6, e7, e8, hi', hi, f3, g1, hlen, hW]))
      | (refine guardK_nbeq (fun h => ?_) (fun h => ?_) <;> (try simp (disch := first | omega | (simp only [List.length_take, List.length_drop, List.length_append, List.length_cons, List.length_nil, List.length_map]; omega)) [h, IntWalk.i64_in, IntWalk.i64_quo, e0, e6, e7, e8, hi', hi, f3, g1, hlen, hW]))
      | (refine guardK_beq (fun h => ?_) (fun h => ?_) <;> (try simp (disch := first | omega | (simp only [List.length_take, List.length_drop, List.length_append, List.length_cons, List.length_nil, List.length_map]; omega)) [h, IntWalk.i64_in, IntWalk.i64_quo, e0, e6, e7, e8, hi', hi, f3, g1, hlen, hW]))
      | (refine guardK_bne (fun h => ?_) (fun h => ?_) <;> (try simp (disch := first | omega | (simp only [List.length_take, List.length_drop, List.length_append, List.length_cons, List.length_nil, List.length_map]; omega)) [h, IntWalk.i64_in, IntWalk.i64_quo, e0, e6, e7, e8, hi', hi, f3, g1, hlen, hW]))
      | (refine guardK_not (fun h => ?_) (fun h => ?_) <;> (try simp (disch := first | omega | (simp only [List.length_take, List.length_drop, List.length_append, List.length_cons, List.length_nil, List.length_map]; omega)) [h, IntWalk.i64_in, IntWalk.i64_quo, e0, e6, e7, e8, hi', hi, f3, g1, hlen, hW]))
      | (refine guardK_split (fun h => ?_) (fun h => ?_) <;> (try simp (disch := first | omega | (simp only [List.length_take, List.length_drop, List.length_append, List.length_cons, List.length_nil, List.length_map]; omega)) [h, IntWalk.i64_in, IntWalk.i64_quo, e0, e6, e7, e8, hi', hi, f3, g1, hlen, hW]))
      | (refine condK_ndec (fun h => ?_) (fun h => ?_) <;> (try simp (disch := first | omega | (simp only [List.length_take, List.length_drop, List.length_append, List.length_cons, List.length_nil, List.length_map]; omega)) [h, IntWalk.i64_in, IntWalk.i64_quo, e0, e6, e7, e8, hi', hi, f3, g1, hlen, hW]))
      | (refine condK_dec (fun h => ?_) (fun h => ?_) <;> (try simp (disch := first | omega | (simp only [List.length_take, List.length_drop, List.length_append, List.length_cons, List.length_nil, List.length_map]; omega)) [h, IntWalk.i64_in, IntWalk.i64_quo, e0, e6, e7, e8, hi', hi, f3, g1, hlen, hW]))
      | (refine condK_nbeq (fun h => ?_) (fun h => ?_) <;> (try simp (disch := first | omega | (simp only [List.length_take, List.length_drop, List.length_append, List.length_cons, List.length_nil, List.length_map]; omega)) [h, IntWalk.i64_in, IntWalk.i64_quo, e0, e6, e7, e8, hi', hi, f3, g1, hlen, hW]))
      | (refine condK_beq (fun h => ?_) (fun h => ?_) <;> (try simp (disch := first | omega | (simp only [List.length_take, List.length_drop, List.length_append, List.length_cons, List.length_nil, List.length_map]; omega)) [h, IntWalk.i64_in, IntWalk.i64_quo, e0, e6, e7, e8, hi', hi, f3, g1, hlen, hW]))
      | (refine condK_bne (fun h => ?_) (fun h => ?_) <;> (try simp (disch := first | omega | (simp only [List.length_take, List.length_drop, List.length_append, List.length_cons, List.length_nil, List.length_map]; omega)) [h, IntWalk.i64_in, IntWalk.i64_quo, e0, e6, e7, e8, hi', hi, f3, g1, hlen, hW]))
      | (refine condK_not (fun h => ?_) (fun h => ?_) <;> (try simp (disch := first | omega | (simp only [List.length_take, List.length_drop, List.length_append, List.length_cons, List.length_nil, List.length_map]; omega)) [h, IntWalk.i64_in, IntWalk.i64_quo, e0, e6, e7, e8, hi', hi, f3, g1, hlen, hW]))
      | (refine condK_split (fun h => ?_) (fun h => ?_) <;> (try simp (disch := first | omega | (simp only [List.length_take, List.length_drop, List.length_append, List.length_cons, List.length_nil, List.length_map]; omega)) [h, IntWalk.i64_in, IntWalk.i64_quo, e0, e6, e7, e8, hi', hi, f3, g1, hlen, hW]))
    refine ⟨j - 1, by omega, i + 1, by omega, by simp [e0], by simp [e6], by simp [e7], by simp, ?_⟩
    rw [obs_succ ns i hi]
    rfl
  · have hi' : ¬ (i : Int) < ns.length := by omega
    have hin : i = ns.length := by omega
    subst hin
    simp (disch := first | omega | (simp only [List.length_take, List.length_drop, List.length_append, List.length_cons, List.length_nil, List.length_map]; omega)) [IntWalk.i64_in, IntWalk.i64_quo, e0, e6, e7, e8, hi']
    exact .inl ⟨by simp, by simp, rfl, by simp⟩

def nilW : Blk := .cells false [.sl .clip []]
theorem bytes_nil {w : Nat} {t : Tok} {a b c : Int} {h : List Blk} {tk : List (Nat × Nat)} (hl : h[w]? = some nilW) :
    ASpec Try.prog 68 [.ptr w 0, .sl t (ints [a, b, c])] ⟨h, tk⟩ fun v st' => v = .tup [] ∧ st' = ⟨h.set w (wB tk.length (obs [a, b, c])), tk ++ [(3, 1)]⟩ := by
  refine raw_of C4s F68 rfl ?_
  obtain ⟨f1, f2, f3, f4, f5⟩ := at_facts hl
  have hW : nilW = .cells false [.sl .clip []] := rfl
  have hI : ints [a, b, c] = [.int .i64 a, .int .i64 b, .int .i64 c] := rfl
  rw [hW] at hl
  simp (disch := first | omega | (simp only [List.length_take, List.length_drop, List.length_append, List.length_cons, List.length_nil, List.length_map]; omega)) [IntWalk.i64_in, IntWalk.i64_quo, c68, hI]
  refine awC_loopU 4 ?_
  simp (disch := first | omega | (simp only [List.length_take, List.length_drop, List.length_append, List.length_cons, List.length_nil, List.length_map]; omega)) [IntWalk.i64_in, IntWalk.i64_quo, hl, f3, hI]
  repeat' first
    | (refine region_static rfl (by decide +kernel) ?_; try simp (disch := first | omega | (simp only [List.length_take, List.length_drop, List.length_append, List.length_cons, List.length_nil, List.length_map]; omega)) [IntWalk.i64_in, IntWalk.i64_quo, hl, f3, hI])
    | (refine And.intro (by omega) ?_; try simp (disch := first | omega | (simp only [List.length_take, List.length_drop, List.length_append, List.length_cons, List.length_nil, List.length_map]; omega)) [IntWalk.i64_in, IntWalk.i64_quo, hl, f3, hI])
    | (refine guardK_ndec (fun h => ?_) (fun h => ?_) <;> (try simp (disch := first | omega | (simp only [List.length_take, List.length_drop, List.length_append, List.length_cons, List.length_nil, List.length_map]; omega)) [h, IntWalk.i64_in, IntWalk.i64_quo, hl, f3, hI]))
    | (refine guardK_dec (fun h => ?_) (fun h => ?_) <;> (try simp (disch := first | omega | (simp only [List.length_take, List.length_drop, List.length_append, List.length_cons, List.length_nil, List.length_map]; omega)) [h, IntWalk.i64_in, IntWalk.i64_quo, hl, f3, hI]))
    | (refine guardK_nbeq (fun h => ?_) (fun h => ?_) <;> (try simp (disch := first | omega | (simp only [List.length_take, List.length_drop, List.length_append, List.length_cons, List.length_nil, List.length_map]; omega)) [h, IntWalk.i64_in, IntWalk.i64_quo, hl, f3, hI]))
    | (refine guardK_beq (fun h => ?_) (fun h => ?_) <;> (try simp (disch := first | omega | (simp only [List.length_take, List.length_drop, List.length_append, List.length_cons, List.length_nil, List.length_map]; omega)) [h, IntWalk.i64_in, IntWalk.i64_quo, hl, f3, hI]))
    | (refine guardK_bne (fun h => ?_) (fun h => ?_) <;> (try simp (disch := first | omega | (simp only [List.length_take, List.length_drop, List.length_append, List.length_cons, List.length_nil, List.length_map]; omega)) [h, IntWalk.i64_in, IntWalk.i64_quo, hl, f3, hI]))
    | (refine guardK_not (fun h => ?_) (fun h => ?_) <;> (try simp (disch := first | omega | (simp only [List.length_take, List.length_drop, List.length_append, List.length_cons, List.length_nil, List.length_map]; omega)) [h, IntWalk.i64_in, IntWalk.i64_quo, hl, f3, hI]))
    | (refine guardK_split (fun h => ?_) (fun h => ?_) <;> (try simp (disch := first | omega | (simp only [List.length_take, List.length_drop, List.length_append, List.length_cons, List.length_nil, List.length_map]; omega)) [h, IntWalk.i64_in, IntWalk.i64_quo, hl, f3, hI]))
    | (refine condK_ndec (fun h => ?_) (fun h => ?_) <;> (try simp (disch := first | omega | (simp only [List.length_take, List.length_drop, List.length_append, List.length_cons, List.length_nil, List.length_map]; omega)) [h, IntWalk.i64_in, IntWalk.i64_quo, hl, f3, hI]))
    | (refine condK_dec (fun h => ?_) (fun h => ?_) <;> (try simp (disch := first | omega | (simp only [List.length_take, List.length_drop, List.length_append, List.length_cons, List.length_nil, List.length_map]; omega)) [h, IntWalk.i64_in, IntWalk.i64_quo, hl, f3, hI]))
    | (refine condK_nbeq (fun h => ?_) (fun h => ?_) <;> (try simp (disch := first | omega | (simp only [List.length_take, List.length_drop, List.length_append, List.length_cons, List.length_nil, List.length_map]; omega)) [h, IntWalk.i64_in, IntWalk.i64_quo, hl, f3, hI]))
    | (refine condK_beq (fun h => ?_) (fun h => ?_) <;> (try simp (disch := first | omega | (simp only [List.length_take, List.length_drop, List.length_append, List.length_cons, List.length_nil, List.length_map]; omega)) [h, IntWalk.i64_in, IntWalk.i64_quo, hl, f3, hI]))
    | (refine condK_bne (fun h => ?_) (fun h => ?_) <;> (try simp (disch := first | omega | (simp only [List.length_take, List.length_drop, List.length_append, List.length_cons, List.length_nil, List.length_map]; omega)) [h, IntWalk.i64_in, IntWalk.i64_quo, hl, f3, hI]))
    | (refine condK_not (fun h => ?_) (fun h => ?_) <;> (try simp (disch := first | omega | (simp only [List.length_take, List.length_drop, List.length_append, List.length_cons, List.length_nil, List.length_map]; omega)) [h, IntWalk.i64_in, IntWalk.i64_quo, hl, f3, hI]))
    | (refine condK_split (fun h => ?_) (fun h => ?_) <;> (try simp (disch := first | omega | (simp only [List.length_take, List.length_drop, List.length_append, List.length_cons, List.length_nil, List.length_map]; omega)) [h, IntWalk.i64_in, IntWalk.i64_quo, hl, f3, hI]))
  exact .inl ⟨by simp, by simp, rfl, rfl⟩
theorem fin_setK {st : St} {l : Nat} {b : Blk} {g : List Blk} {tk : List (Nat × Nat)} {vs : List AV} {R : AV → St → Prop} (ht : tk.length = st.toks.length) (hb : okBlk st.heap.length st.toks.length b = true) (hv : okL st.heap.length st.toks.length vs = true) (hR : R (one vs) ⟨st.heap.set l b, tk⟩) : finishR st vs ⟨st.heap.set l b ++ g, tk⟩ R := by
  refine .inr ⟨⟨st.heap.set l b, tk⟩, List.prefix_append _ _, List.prefix_refl _, by simp, ht.symm, fun l' b' h => ?_, by simpa [ht] using hv, hR⟩
  simp only [List.length_set, ht]
  rw [List.getElem?_set] at h
  split at h
  · split at h
    · injection h with h
      subst h
      exact .inr hb
    · cases h
  · exact .inl h
theorem le3_obs (n : Int) : obs [n, n / 256, n / 65536] = le3 n := rfl
theorem wthree_nil {w : Nat} {n : Int} (hn : 0 ≤ n) {h : List Blk} {tk : List (Nat × Nat)} (hl : h[w]? = some nilW) :
    ASpec Try.prog 52 [.ptr w 0, .int .i64 n] ⟨h, tk⟩ fun v st' => v = .tup [] ∧ st' = ⟨h.set w (wB tk.length (le3 n)), tk ++ [(3, 1)]⟩ := by
  refine raw_of C4s F52 rfl ?_
  simp (disch := first | omega | (simp only [List.length_take, List.length_drop, List.length_append, List.length_cons, List.length_nil, List.length_map]; omega)) [IntWalk.i64_in, IntWalk.i64_quo, c52, shr_i64]
  refine (bytes_nil (w := w) (t := .clip) (a := n) (b := n / 256) (c := n / 65536) hl).mono ?_
  rintro _ _ ⟨rfl, rfl⟩
  simp (disch := first | omega | (simp only [List.length_take, List.length_drop, List.length_append, List.length_cons, List.length_nil, List.length_map]; omega)) [IntWalk.i64_in, IntWalk.i64_quo]
  exact .inl ⟨by simp, by simp, rfl, by rw [le3_obs]⟩
theorem wthree_own {w k : Nat} {bs : List UInt8} {n : Int} (hn : 0 ≤ n) {st : St} (hl : st.heap[w]? = some (wB k bs)) (hk : st.toks[k]? = some (bs.length, 1)) (hb : bs.length ≤ 100000) :
    ASpec Try.prog 52 [.ptr w 0, .int .i64 n] st fun v st' => v = .tup [] ∧ st' = ⟨st.heap.set w (wB k (bs ++ le3 n)), st.toks.set k (bs.length + 3, 1)⟩ := by
  refine raw_of C4s F52 rfl ?_
  simp (disch := first | omega | (simp only [List.length_take, List.length_drop, List.length_append, List.length_cons, List.length_nil, List.length_map]; omega)) [IntWalk.i64_in, IntWalk.i64_quo, c52, shr_i64]
  refine (bytes_own (t := .clip) (ns := [n, n / 256, n / 65536]) hl hk hb (by simp)).mono ?_
  rintro _ _ ⟨rfl, rfl⟩
  simp (disch := first | omega | (simp only [List.length_take, List.length_drop, List.length_append, List.length_cons, List.length_nil, List.length_map]; omega)) [IntWalk.i64_in, IntWalk.i64_quo]
  exact .inl ⟨by simp, by simp, rfl, by rw [le3_obs]⟩
theorem wname_nil {w : Nat} {n : Nm} (hn : 0 ≤ n.stamp ∧ 0 ≤ n.inc ∧ 0 ≤ n.tr) {h : List Blk} {tk : List (Nat × Nat)} (hl : h[w]? = some nilW) :
    ASpec Try.prog 58 [.ptr w 0, .agg (nmC n)] ⟨h, tk⟩ fun v st' => v = .tup [] ∧ st' = ⟨h.set w (wB tk.length (nmB n)), tk ++ [(9, 1)]⟩ := by
  refine raw_of C4s F58 rfl ?_
  obtain ⟨f1, f2, f3, f4, f5⟩ := at_facts hl
  simp (disch := first | omega | (simp only [List.length_take, List.length_drop, List.length_append, List.length_cons, List.length_nil, List.length_map]; omega)) [IntWalk.i64_in, IntWalk.i64_quo, c58]
  refine awC_loopU 4 ?_
  simp (disch := first | omega | (simp only [List.length_take, List.length_drop, List.length_append, List.length_cons, List.length_nil, List.length_map]; omega)) [IntWalk.i64_in, IntWalk.i64_quo]
  refine (wthree_nil hn.1 hl).mono ?_
  rintro _ _ ⟨rfl, rfl⟩
  simp (disch := first | omega | (simp only [List.length_take, List.length_drop, List.length_append, List.length_cons, List.length_nil, List.length_map]; omega)) [IntWalk.i64_in, IntWalk.i64_quo]
  refine (wthree_own hn.2.1 (f3 _) (by simp [le3]) (by simp [le3])).mono ?_
  rintro _ _ ⟨rfl, rfl⟩
  simp (disch := first | omega | (simp only [List.length_take, List.length_drop, List.length_append, List.length_cons, List.length_nil, List.length_map]; omega)) [IntWalk.i64_in, IntWalk.i64_quo]
  refine (wthree_own hn.2.2 (by simp; exact f3 _) (by simp [le3]) (by simp [le3])).mono ?_
  rintro _ _ ⟨rfl, rfl⟩
  simp (disch := first | omega | (simp only [List.length_take, List.length_drop, List.length_append, List.length_cons, List.length_nil, List.length_map]; omega)) [IntWalk.i64_in, IntWalk.i64_quo]
  exact .inl ⟨by simp, by simp, rfl, by simp [nmB, le3]⟩
theorem wflag_own {w k : Nat} {bs : List UInt8} {y : Bool} {st : St} (hl : st.heap[w]? = some (wB k bs)) (hk : st.toks[k]? = some (bs.length, 1)) (hb : bs.length ≤ 100000) :
    ASpec Try.prog 73 [.ptr w 0, .bool y] st fun v st' => v = .tup [] ∧ st' = ⟨st.heap.set w (wB k (bs ++ [if y then 1 else 0])), st.toks.set k (bs.length + 1, 1)⟩ := by
  refine raw_of C4s F73 rfl ?_
  cases y
  · simp (disch := first | omega | (simp only [List.length_take, List.length_drop, List.length_append, List.length_cons, List.length_nil, List.length_map]; omega)) [IntWalk.i64_in, IntWalk.i64_quo, c73]
    refine (bytes_own (t := .clip) (ns := [0]) hl hk hb (by simp)).mono ?_
    rintro _ _ ⟨rfl, rfl⟩
    simp (disch := first | omega | (simp only [List.length_take, List.length_drop, List.length_append, List.length_cons, List.length_nil, List.length_map]; omega)) [IntWalk.i64_in, IntWalk.i64_quo]
    exact .inl ⟨by simp, by simp, rfl, rfl⟩
  · simp (disch := first | omega | (simp only [List.length_take, List.length_drop, List.length_append, List.length_cons, List.length_nil, List.length_map]; omega)) [IntWalk.i64_in, IntWalk.i64_quo, c73]
    refine (bytes_own (t := .clip) (ns := [1]) hl hk hb (by simp)).mono ?_
    rintro _ _ ⟨rfl, rfl⟩
    simp (disch := first | omega | (simp only [List.length_take, List.length_drop, List.length_append, List.length_cons, List.length_nil, List.length_map]; omega)) [IntWalk.i64_in, IntWalk.i64_quo]
    exact .inl ⟨by simp, by simp, rfl, rfl⟩
def WWI (w k : Nat) (bs : List UInt8) (ws : List Wr) (st : St) (j : Nat) (env : Env) (s : St) : Prop :=
  ∃ i, j + i = ws.length ∧ env 0 = .ptr w 0 ∧ env 11 = .sl .any (wrs ws) ∧ env 12 = .int .i64 ws.length ∧ env 13 = .int .i64 i ∧
    (∃ g, s = ⟨st.heap.set w (wB k (bs ++ UInt8.ofInt ws.length :: wf ws i)) ++ g, st.toks.set k (bs.length + 1 + 9 * i, 1)⟩)
theorem wwrites_own {w k : Nat} {bs : List UInt8} {ws : List Wr} {st : St} (hl : st.heap[w]? = some (wB k bs)) (hk : st.toks[k]? = some (bs.length, 1)) (hb : bs.length ≤ 50000) (hw : ws.length ≤ 1000) :
    ASpec Try.prog 63 [.ptr w 0, .sl .any (wrs ws)] st fun v st' => v = .tup [] ∧ st' = ⟨st.heap.set w (wB k (bs ++ wsB ws)), st.toks.set k ((bs ++ wsB ws).length, 1)⟩ := by
  refine raw_of C4s F63 rfl ?_
  obtain ⟨f1, f2, f3, f4, f5⟩ := at_facts hl
  have hkl := (List.getElem?_eq_some_iff.1 hk).1
  have g1 : ∀ v, (st.toks.set k v)[k]? = some v := fun v => List.getElem?_set_self hkl
  simp (disch := first | omega | (simp only [List.length_take, List.length_drop, List.length_append, List.length_cons, List.length_nil, List.length_map]; omega)) [IntWalk.i64_in, IntWalk.i64_quo, c63]
  refine (bytes_own (t := .clip) (ns := [(ws.length : Int)]) hl hk (by omega) (by simp)).mono ?_
  rintro _ _ ⟨rfl, rfl⟩
  simp (disch := first | omega | (simp only [List.length_take, List.length_drop, List.length_append, List.length_cons, List.length_nil, List.length_map]; omega)) [IntWalk.i64_in, IntWalk.i64_quo]
  refine awC_loopW (WWI w k bs ws st) ws.length ?_ ?_
  · exact ⟨0, rfl, by simp, by simp, by simp, by simp, [], by simp [wf_0, obs]⟩
  rintro j env s ⟨i, hj, e0, e11, e12, e13, g, rfl⟩
  by_cases hi : i < ws.length
  · have hi' : (i : Int) < ws.length := by omega
    have hfl := wf_len ws (Nat.le_of_lt hi)
    clear hkl hl hk
    simp (disch := first | omega | (simp only [List.length_take, List.length_drop, List.length_append, List.length_cons, List.length_nil, List.length_map]; omega)) [IntWalk.i64_in, IntWalk.i64_quo, e0, e11, e12, e13, hi', hi, f3, g1]
    refine (bytes_own (t := .clip) (ns := [ws[i].block]) (f2 _ _) (by simpa [hfl, Nat.add_assoc, Nat.add_comm] using g1 _) (by simp; omega) (by simp)).mono ?_
    rintro _ _ ⟨rfl, rfl⟩
    have hW : ∀ b, wB k b = .cells false [.sl (.own k) (ofBytes b)] := fun _ => rfl
    have hO : ∀ x, obs [x] = [UInt8.ofInt x] := fun _ => rfl
    have g2 : ∀ v x, (st.heap.set w v ++ (g ++ [x]))[st.heap.length + g.length]? = some x := fun v x => by
      rw [← List.append_assoc, List.getElem?_append_right (by simp)]
      simp
    simp (disch := first | omega | (simp only [List.length_take, List.length_drop, List.length_append, List.length_cons, List.length_nil, List.length_map]; omega)) [IntWalk.i64_in, IntWalk.i64_quo, e0, e11, e12, e13, f2, f5, g1, g2, hfl, hW, hO]
    repeat' first
      | (refine region_static rfl (by decide +kernel) ?_; try simp (disch := first | omega | (simp only [List.length_take, List.length_drop, List.length_append, List.length_cons, List.length_nil, List.length_map]; omega)) [IntWalk.i64_in, IntWalk.i64_quo, e0, e11, e12, e13, f2, f5, g1, g2, hfl, hW, hO])
      | (refine And.intro (by omega) ?_; try simp (disch := first | omega | (simp only [List.length_take, List.length_drop, List.length_append, List.length_cons, List.length_nil, List.length_map]; omega)) [IntWalk.i64_in, IntWalk.i64_quo, e0, e11, e12, e13, f2, f5, g1, g2, hfl, hW, hO])
      | (refine guardK_ndec (fun h => ?_) (fun h => ?_) <;> (try simp (disch := first | omega | (simp only [List.length_take, List.length_drop, List.length_append, List.length_cons, List.length_nil, List.length_map]; omega)) [h, IntWalk.i64_in, IntWalk.i64_quo, e0, e11, e12, e13, f2, f5, g1, g2, hfl, hW, hO]))
      | (refine guardK_dec (fun h => ?_) (fun h => ?_) <;> (try simp (disch := first | omega | (simp only [List.length_take, List.length_drop, List.length_append, List.length_cons, List.length_nil, List.length_map]; omega)) [h, IntWalk.i64_in, IntWalk.i64_quo, e0, e11, e12, e13, f2, f5, g1, g2, hfl, hW, hO]))
      | (refine guardK_nbeq (fun h => ?_) (fun h => ?_) <;> (try simp (disch := first | omega | (simp only [List.length_take, List.length_drop, List.length_append, List.length_cons, List.length_nil, List.length_map]; omega)) [h, IntWalk.i64_in, IntWalk.i64_quo, e0, e11, e12, e13, f2, f5, g1, g2, hfl, hW, hO]))
      | (refine guardK_beq (fun h => ?_) (fun h => ?_) <;> (try simp (disch := first | omega | (simp only [List.length_take, List.length_drop, List.length_append, List.length_cons, List.length_nil, List.length_map]; omega)) [h, IntWalk.i64_in, IntWalk.i64_quo, e0, e11, e12, e13, f2, f5, g1, g2, hfl, hW, hO]))
      | (refine guardK_bne (fun h => ?_) (fun h => ?_) <;> (try simp (disch := first | omega | (simp only [List.length_take, List.length_drop, List.length_append, List.length_cons, List.length_nil, List.length_map]; omega)) [h, IntWalk.i64_in, IntWalk.i64_quo, e0, e11, e12, e13, f2, f5, g1, g2, hfl, hW, hO]))
      | (refine guardK_not (fun h => ?_) (fun h => ?_) <;> (try simp (disch := first | omega | (simp only [List.length_take, List.length_drop, List.length_append, List.length_cons, List.length_nil, List.length_map]; omega)) [h, IntWalk.i64_in, IntWalk.i64_quo, e0, e11, e12, e13, f2, f5, g1, g2, hfl, hW, hO]))
      | (refine guardK_split (fun h => ?_) (fun h => ?_) <;> (try simp (disch := first | omega | (simp only [List.length_take, List.length_drop, List.length_append, List.length_cons, List.length_nil, List.length_map]; omega)) [h, IntWalk.i64_in, IntWalk.i64_quo, e0, e11, e12, e13, f2, f5, g1, g2, hfl, hW, hO]))
      | (refine condK_ndec (fun h => ?_) (fun h => ?_) <;> (try simp (disch := first | omega | (simp only [List.length_take, List.length_drop, List.length_append, List.length_cons, List.length_nil, List.length_map]; omega)) [h, IntWalk.i64_in, IntWalk.i64_quo, e0, e11, e12, e13, f2, f5, g1, g2, hfl, hW, hO]))
      | (refine condK_dec (fun h => ?_) (fun h => ?_) <;> (try simp (disch := first | omega | (simp only [List.length_take, List.length_drop, List.length_append, List.length_cons, List.length_nil, List.length_map]; omega)) [h, IntWalk.i64_in, IntWalk.i64_quo, e0, e11, e12, e13, f2, f5, g1, g2, hfl, hW, hO]))
      | (refine condK_nbeq (fun h => ?_) (fun h => ?_) <;> (try simp (disch := first | omega | (simp only [List.length_take, List.length_drop, List.length_append, List.length_cons, List.length_nil, List.length_map]; omega)) [h, IntWalk.i64_in, IntWalk.i64_quo, e0, e11, e12, e13, f2, f5, g1, g2, hfl, hW, hO]))
      | (refine condK_beq (fun h => ?_) (fun h => ?_) <;> (try simp (disch := first | omega | (simp only [List.length_take, List.length_drop, List.length_append, List.length_cons, List.length_nil, List.length_map]; omega)) [h, IntWalk.i64_in, IntWalk.i64_quo, e0, e11, e12, e13, f2, f5, g1, g2, hfl, hW, hO]))
      | (refine condK_bne (fun h => ?_) (fun h => ?_) <;> (try simp (disch := first | omega | (simp only [List.length_take, List.length_drop, List.length_append, List.length_cons, List.length_nil, List.length_map]; omega)) [h, IntWalk.i64_in, IntWalk.i64_quo, e0, e11, e12, e13, f2, f5, g1, g2, hfl, hW, hO]))
      | (refine condK_not (fun h => ?_) (fun h => ?_) <;> (try simp (disch := first | omega | (simp only [List.length_take, List.length_drop, List.length_append, List.length_cons, List.length_nil, List.length_map]; omega)) [h, IntWalk.i64_in, IntWalk.i64_quo, e0, e11, e12, e13, f2, f5, g1, g2, hfl, hW, hO]))
      | (refine condK_split (fun h => ?_) (fun h => ?_) <;> (try simp (disch := first | omega | (simp only [List.length_take, List.length_drop, List.length_append, List.length_cons, List.length_nil, List.length_map]; omega)) [h, IntWalk.i64_in, IntWalk.i64_quo, e0, e11, e12, e13, f2, f5, g1, g2, hfl, hW, hO]))
    rw [evA_appOwn _ _ _ _ (ofBytes [ws[i].v0, ws[i].v1, ws[i].v2, ws[i].v3, ws[i].v4, ws[i].v5, ws[i].v6, ws[i].v7]) _ (by simp [srcEs, g2, chunk, ofBytes]; exact ⟨rfl, rfl, rfl, rfl, rfl, rfl, rfl, rfl⟩)]
    simp (disch := first | omega | (simp only [List.length_take, List.length_drop, List.length_append, List.length_cons, List.length_nil, List.length_map]; omega)) [IntWalk.i64_in, IntWalk.i64_quo, e0, e11, e12, e13, f2, f5, g1, g2, hfl, hW, hO]
    have hs := wf_succ ws hi
    refine ⟨by show _ ≤ 2147483648; omega, by omega, j - 1, by omega, i + 1, by omega, by simp [e0], by simp [e11], by simp [e12], by simp, g ++ [.cells false [.int .i64 ws[i].block, u8 ws[i].v0, u8 ws[i].v1, u8 ws[i].v2, u8 ws[i].v3, u8 ws[i].v4, u8 ws[i].v5, u8 ws[i].v6, u8 ws[i].v7]], ?_⟩
    rw [hs, show bs.length + 1 + 9 * (i + 1) = bs.length + (9 * i + 1 + 1) + 8 by omega]
    rfl
  · have hi' : ¬ (i : Int) < ws.length := by omega
    have hiw : i = ws.length := by omega
    subst hiw
    have hfl := wf_len ws (Nat.le_refl _)
    simp (disch := first | omega | (simp only [List.length_take, List.length_drop, List.length_append, List.length_cons, List.length_nil, List.length_map]; omega)) [IntWalk.i64_in, IntWalk.i64_quo, e0, e11, e12, e13, hi']
    refine fin_setK (by simp) (by simp [okBlk, wB, hkl]) (by simp) ⟨rfl, ?_⟩
    rw [wsB, List.length_cons, wb_len, wf_all, show bs.length + 1 + 9 * ws.length = bs.length + (9 * ws.length + 1) by omega]
end Go.Proofs.Ytchaakjbedkndaa

/- Records: the program's bytes. -/
import Derived.Test.YtchaakjbedkndaaZG
import Derived.Test.YtchaakjbedkndaaZAmStat2
set_option linter.all false
namespace Go.Proofs.Ytchaakjbedkndaa
open Go.Am

theorem put51 {r : Rc} {w l : Nat} {h : List Blk} {tk : List (Nat × Nat)} (hw : h[w]? = some nilW) (hl : h[l]? = some (rB r)) (hn : 0 ≤ r.n) :
    ASpec Try.prog 51 [.ptr w 0, .ptr l 0] ⟨h, tk⟩ fun v st' => v = .tup [] ∧ st' = ⟨h.set w (wB tk.length (le3 r.n)), tk ++ [(3, 1)]⟩ := by
  refine raw_of C4s F51 rfl ?_
  rw [rB] at hl
  simp (disch := first | omega | (simp only [List.length_take, List.length_drop, List.length_append, List.length_cons, List.length_nil, List.length_map]; omega)) [IntWalk.i64_in, IntWalk.i64_quo, c51, hl]
  refine (wthree_nil hn hw).mono ?_
  rintro _ _ ⟨rfl, rfl⟩
  simp (disch := first | omega | (simp only [List.length_take, List.length_drop, List.length_append, List.length_cons, List.length_nil, List.length_map]; omega)) [IntWalk.i64_in, IntWalk.i64_quo]
  exact .inl ⟨by simp, by simp, rfl, rfl⟩
/-- What follows a record's name. -/
def tailR (r : Rc) : List UInt8 := if r.kind = 1 then wsB r.ws else if r.kind = 2 then wsB r.ws ++ [UInt8.ofInt r.give, UInt8.ofInt r.take] else if r.kind = 3 then [if r.yes then 1 else 0]
    else if r.kind = 4 then [UInt8.ofInt r.shards, UInt8.ofInt (r.stripe + 1), UInt8.ofInt r.to] else []
def Put (f : Nat) (r : Rc) (tl : List UInt8) : Prop := ∀ {w l k : Nat} {bs : List UInt8} {st : St}, l ≠ w → st.heap[w]? = some (wB k bs) → st.heap[l]? = some (rB r) → st.toks[k]? = some (bs.length, 1) → bs.length ≤ 1000 →
    ASpec Try.prog f [.ptr w 0, .ptr l 0] st fun v st' => v = .tup [] ∧ st' = ⟨st.heap.set w (wB k (bs ++ tl)), st.toks.set k ((bs ++ tl).length, 1)⟩
theorem put62 {r : Rc} (hw : r.ws.length ≤ 8) : Put 62 r (wsB r.ws) := by
  intro w l k bs st hne hw' hl hk hb
  refine raw_of C4s F62 rfl ?_
  rw [rB] at hl
  simp (disch := first | omega | (simp only [List.length_take, List.length_drop, List.length_append, List.length_cons, List.length_nil, List.length_map]; omega)) [IntWalk.i64_in, IntWalk.i64_quo, c62, hl]
  refine (wwrites_own hw' hk (by omega) (by omega)).mono ?_
  rintro _ _ ⟨rfl, rfl⟩
  simp (disch := first | omega | (simp only [List.length_take, List.length_drop, List.length_append, List.length_cons, List.length_nil, List.length_map]; omega)) [IntWalk.i64_in, IntWalk.i64_quo]
  exact .inl ⟨by simp, by simp, rfl, by simp⟩
theorem put67 {r : Rc} (hw : r.ws.length ≤ 8) : Put 67 r (wsB r.ws ++ [UInt8.ofInt r.give, UInt8.ofInt r.take]) := by
  intro w l k bs st hne hw' hl hk hb
  refine raw_of C4s F67 rfl ?_
  obtain ⟨f1, f2, f3, f4, f5⟩ := at_facts hw'
  have hkl := (List.getElem?_eq_some_iff.1 hk).1
  have g1 : ∀ v, (st.toks.set k v)[k]? = some v := fun v => List.getElem?_set_self hkl
  have g2 : ∀ v, (st.heap.set w v)[l]? = some (.cells false (rcC r)) := fun v => by rw [List.getElem?_set_ne (Ne.symm hne)]; exact hl
  have hwl : (wsB r.ws).length ≤ 73 := by rw [wsB, List.length_cons, wb_len]; omega
  rw [rB] at hl
  simp (disch := first | omega | (simp only [List.length_take, List.length_drop, List.length_append, List.length_cons, List.length_nil, List.length_map]; omega)) [IntWalk.i64_in, IntWalk.i64_quo, c67, hl]
  refine (wwrites_own hw' hk (by omega) (by omega)).mono ?_
  rintro _ _ ⟨rfl, rfl⟩
  clear hkl hk
  simp (disch := first | omega | (simp only [List.length_take, List.length_drop, List.length_append, List.length_cons, List.length_nil, List.length_map]; omega)) [IntWalk.i64_in, IntWalk.i64_quo, g2]
  refine region_state [68] [] [0, 1, 2, 3, 4, 5, 6, 7, 8, 9, 10] (by decide +kernel) ?_
  simp (disch := first | omega | (simp only [List.length_take, List.length_drop, List.length_append, List.length_cons, List.length_nil, List.length_map]; omega)) [IntWalk.i64_in, IntWalk.i64_quo, g2]
  refine (bytes_own (t := .clip) (k := k) (bs := bs ++ wsB r.ws) (ns := [r.give, r.take]) (f3 _) (by simpa using g1 _) (by simp; omega) (by simp)).mono ?_
  rintro _ _ ⟨rfl, rfl⟩
  simp (disch := first | omega | (simp only [List.length_take, List.length_drop, List.length_append, List.length_cons, List.length_nil, List.length_map]; omega)) [IntWalk.i64_in, IntWalk.i64_quo]
  exact .inl ⟨by simp, by simp, rfl, by simp [obs, Nat.add_assoc]⟩
theorem put72 {r : Rc} : Put 72 r [if r.yes then 1 else 0] := by
  intro w l k bs st hne hw' hl hk hb
  refine raw_of C4s F72 rfl ?_
  rw [rB] at hl
  simp (disch := first | omega | (simp only [List.length_take, List.length_drop, List.length_append, List.length_cons, List.length_nil, List.length_map]; omega)) [IntWalk.i64_in, IntWalk.i64_quo, c72, hl]
  refine (wflag_own hw' hk (by omega)).mono ?_
  rintro _ _ ⟨rfl, rfl⟩
  simp (disch := first | omega | (simp only [List.length_take, List.length_drop, List.length_append, List.length_cons, List.length_nil, List.length_map]; omega)) [IntWalk.i64_in, IntWalk.i64_quo]
  exact .inl ⟨by simp, by simp, rfl, by simp⟩
theorem put76 {r : Rc} (hs : 0 ≤ r.stripe + 1 ∧ r.stripe ≤ 100) : Put 76 r [UInt8.ofInt r.shards, UInt8.ofInt (r.stripe + 1), UInt8.ofInt r.to] := by
  intro w l k bs st hne hw' hl hk hb
  refine raw_of C4s F76 rfl ?_
  rw [rB] at hl
  have hst : IntKind.i64.wrap (r.stripe + 1) = r.stripe + 1 := IntWalk.i64_in _ (by omega)
  simp (disch := first | omega | (simp only [List.length_take, List.length_drop, List.length_append, List.length_cons, List.length_nil, List.length_map]; omega)) [IntWalk.i64_in, IntWalk.i64_quo, c76]
  refine region_state [68] [] [0, 1, 2, 3, 4, 5, 6, 7, 8, 9, 10, 11, 12, 13, 14, 15, 16, 17] (by decide +kernel) ?_
  simp (disch := first | omega | (simp only [List.length_take, List.length_drop, List.length_append, List.length_cons, List.length_nil, List.length_map]; omega)) [IntWalk.i64_in, IntWalk.i64_quo, hl, hst]
  refine (bytes_own (t := .clip) (ns := [r.shards, r.stripe + 1, r.to]) hw' hk (by omega) (by simp)).mono ?_
  rintro _ _ ⟨rfl, rfl⟩
  simp (disch := first | omega | (simp only [List.length_take, List.length_drop, List.length_append, List.length_cons, List.length_nil, List.length_map]; omega)) [IntWalk.i64_in, IntWalk.i64_quo]
  exact .inl ⟨by simp, by simp, rfl, by simp [obs]⟩
theorem put79 {r : Rc} : Put 79 r [] := by
  intro w l k bs st hne hw' hl hk hb
  refine raw_of C4s F79 rfl ?_
  simp (disch := first | omega | (simp only [List.length_take, List.length_drop, List.length_append, List.length_cons, List.length_nil, List.length_map]; omega)) [IntWalk.i64_in, IntWalk.i64_quo, c79]
  have e1 : st.heap.set w (wB k bs) = st.heap := by
    obtain ⟨h1, h2⟩ := List.getElem?_eq_some_iff.1 hw'
    rw [← h2]
    exact List.set_getElem_self h1
  have e2 : st.toks.set k (bs.length, 1) = st.toks := by
    obtain ⟨h1, h2⟩ := List.getElem?_eq_some_iff.1 hk
    rw [← h2]
    exact List.set_getElem_self h1
  refine .inl ⟨by simp, by simp, rfl, ?_⟩
  rw [e1, e2]
/-- A name, then the rest. -/
theorem put57 {r : Rc} {f w l : Nat} {tl : List UInt8} (hf : Put f r tl) (hC : ∀ a, C4 f a = none) {h : List Blk} {tk : List (Nat × Nat)} (hne : l ≠ w) (hw : h[w]? = some nilW) (hl : h[l]? = some (rB r)) (hn : 0 ≤ r.nm.stamp ∧ 0 ≤ r.nm.inc ∧ 0 ≤ r.nm.tr) :
    ASpec Try.prog 57 [.ptr w 0, .ptr l 0, .rptr (fnA f)] ⟨h, tk⟩ fun v st' => v = .tup [] ∧ st' = ⟨h.set w (wB tk.length (nmB r.nm ++ tl)), tk ++ [((nmB r.nm ++ tl).length, 1)]⟩ := by
  refine raw_of C4s F57 rfl ?_
  obtain ⟨f1, f2, f3, f4, f5⟩ := at_facts hw
  have g2 : ∀ v, (h.set w v)[l]? = some (rB r) := fun v => by rw [List.getElem?_set_ne (Ne.symm hne)]; exact hl
  rw [rB] at hl
  simp (disch := first | omega | (simp only [List.length_take, List.length_drop, List.length_append, List.length_cons, List.length_nil, List.length_map]; omega)) [IntWalk.i64_in, IntWalk.i64_quo, c57, hl]
  refine (wname_nil hn hw).mono ?_
  rintro _ _ ⟨rfl, rfl⟩
  simp (disch := first | omega | (simp only [List.length_take, List.length_drop, List.length_append, List.length_cons, List.length_nil, List.length_map]; omega)) [IntWalk.i64_in, IntWalk.i64_quo, hC]
  refine (hf hne (f3 _) (g2 _) (by simp; rfl) (by simp [nmB, le3])).mono ?_
  rintro _ _ ⟨rfl, rfl⟩
  simp (disch := first | omega | (simp only [List.length_take, List.length_drop, List.length_append, List.length_cons, List.length_nil, List.length_map]; omega)) [IntWalk.i64_in, IntWalk.i64_quo]
  exact .inl ⟨by simp, by simp, rfl, by simp⟩
end Go.Proofs.Ytchaakjbedkndaa

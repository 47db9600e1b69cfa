/- Records: what the program's forms read. -/
import Derived.Test.YtchaakjbedkndaaZM
set_option linter.all false
namespace Go.Proofs.Ytchaakjbedkndaa
open Go.Am

theorem two_facts {g x : Nat} {h : List Blk} {a b : Blk} (hne : g ≠ x) (hg : h[g]? = some a) (hx : h[x]? = some b) :
    (∀ v, (h.set g v)[x]? = some b) ∧ (∀ v w, ((h.set g v).set x w)[g]? = some v) ∧ (∀ v w, ((h.set g v).set x w)[x]? = some w) ∧
    (∀ v w u, ((h.set g v).set x w).set g u = (h.set g u).set x w) := by
  have hgl := (List.getElem?_eq_some_iff.1 hg).1
  have hxl := (List.getElem?_eq_some_iff.1 hx).1
  refine ⟨fun v => by rw [List.getElem?_set_ne hne]; exact hx, fun v w => by rw [List.getElem?_set_ne (Ne.symm hne)]; exact List.getElem?_set_self hgl, fun v w => List.getElem?_set_self (by simpa using hxl), fun v w u => ?_⟩
  rw [List.set_comm _ _ (Ne.symm hne), List.set_set]
theorem set_same {h : List Blk} {g : Nat} {b : Blk} (hl : h[g]? = some b) : h.set g b = h := by
  refine List.ext_getElem? fun i => ?_
  by_cases h1 : g = i
  · subst h1; rw [List.getElem?_set_self (List.getElem?_eq_some_iff.1 hl).1, hl]
  · rw [List.getElem?_set_ne h1]
/-- A record's block, the writes' slice marked. -/
def rBt (t : Tok) (r : Rc) : Blk := .cells false [.int .i8 r.kind, .int .i64 r.nm.stamp, .int .i64 r.nm.inc, .int .i64 r.nm.tr, .bool r.yes, .sl t (wrs r.ws), .int .i64 r.give, .int .i64 r.take, .int .i64 r.shards, .int .i64 r.stripe, .int .i64 r.to, .int .i64 r.n]
/-- A form's reader `f`: what it makes of the record r and of what is left. -/
def Got (f : Nat) (r : Rc) (s : RS) (q : Rc × RS) (t : Tok) : Prop := ∀ {g x : Nat} {st : St}, g ≠ x → st.heap[g]? = some (gB s) → st.heap[x]? = some (rBt .clip r) →
    ASpec Try.prog f [.ptr g 0, .ptr x 0] st fun v st' => v = .tup [] ∧ st' = ⟨(st.heap.set g (gB q.2)).set x (rBt t q.1), st.toks⟩
theorem got53 {k : Int} {s : RS} (hs : s.1.length ≤ 1000000) : Got 53 (zRc k) s ({ zRc k with n := (rd3 s).1 }, (rd3 s).2) .clip := by
  intro g x st hne hg hx
  refine raw_of C4s F53 rfl ?_
  obtain ⟨p1, p2, p3, p4⟩ := two_facts hne hg hx
  have hR : ∀ t r, rBt t r = .cells false [.int .i8 r.kind, .int .i64 r.nm.stamp, .int .i64 r.nm.inc, .int .i64 r.nm.tr, .bool r.yes, .sl t (wrs r.ws), .int .i64 r.give, .int .i64 r.take, .int .i64 r.shards, .int .i64 r.stripe, .int .i64 r.to, .int .i64 r.n] := fun _ _ => rfl
  simp (disch := first | omega | (simp only [List.length_take, List.length_drop, List.length_append, List.length_cons, List.length_nil, List.length_map]; omega)) [IntWalk.i64_in, IntWalk.i64_quo, c53]
  refine (gthree_spec hs hg).mono ?_
  rintro _ _ ⟨rfl, rfl⟩
  clear hg hx
  simp (disch := first | omega | (simp only [List.length_take, List.length_drop, List.length_append, List.length_cons, List.length_nil, List.length_map]; omega)) [IntWalk.i64_in, IntWalk.i64_quo, p1, hR]
  exact .inl ⟨by simp, by simp, rfl, by simp [zRc]⟩
/-- A record of a kind with a name, empty else. -/
def nRc (k : Int) (n : Nm) : Rc := { zRc k with nm := n }
theorem got64 {k : Int} {n : Nm} {s : RS} (hs : s.1.length ≤ 1000000) : Got 64 (nRc k n) s ({ nRc k n with ws := (rdWr s).1 }, (rdWr s).2) .any := by
  intro g x st hne hg hx
  refine raw_of C4s F64 rfl ?_
  obtain ⟨p1, p2, p3, p4⟩ := two_facts hne hg hx
  have hR : ∀ t r, rBt t r = .cells false [.int .i8 r.kind, .int .i64 r.nm.stamp, .int .i64 r.nm.inc, .int .i64 r.nm.tr, .bool r.yes, .sl t (wrs r.ws), .int .i64 r.give, .int .i64 r.take, .int .i64 r.shards, .int .i64 r.stripe, .int .i64 r.to, .int .i64 r.n] := fun _ _ => rfl
  simp (disch := first | omega | (simp only [List.length_take, List.length_drop, List.length_append, List.length_cons, List.length_nil, List.length_map]; omega)) [IntWalk.i64_in, IntWalk.i64_quo, c64]
  refine (gwrites_spec hs hg).mono ?_
  rintro _ _ ⟨rfl, rfl⟩
  clear hg hx
  simp (disch := first | omega | (simp only [List.length_take, List.length_drop, List.length_append, List.length_cons, List.length_nil, List.length_map]; omega)) [IntWalk.i64_in, IntWalk.i64_quo, p1, hR]
  exact .inl ⟨by simp, by simp, rfl, by simp [nRc, zRc]⟩
theorem got74 {k : Int} {n : Nm} {s : RS} (hs : s.1.length ≤ 1000000) : Got 74 (nRc k n) s ({ nRc k n with yes := (rdF s).1 }, (rdF s).2) .clip := by
  intro g x st hne hg hx
  refine raw_of C4s F74 rfl ?_
  obtain ⟨p1, p2, p3, p4⟩ := two_facts hne hg hx
  have hR : ∀ t r, rBt t r = .cells false [.int .i8 r.kind, .int .i64 r.nm.stamp, .int .i64 r.nm.inc, .int .i64 r.nm.tr, .bool r.yes, .sl t (wrs r.ws), .int .i64 r.give, .int .i64 r.take, .int .i64 r.shards, .int .i64 r.stripe, .int .i64 r.to, .int .i64 r.n] := fun _ _ => rfl
  simp (disch := first | omega | (simp only [List.length_take, List.length_drop, List.length_append, List.length_cons, List.length_nil, List.length_map]; omega)) [IntWalk.i64_in, IntWalk.i64_quo, c74]
  refine (gflag_spec hs hg).mono ?_
  rintro _ _ ⟨rfl, rfl⟩
  clear hg hx
  simp (disch := first | omega | (simp only [List.length_take, List.length_drop, List.length_append, List.length_cons, List.length_nil, List.length_map]; omega)) [IntWalk.i64_in, IntWalk.i64_quo, p1, hR]
  exact .inl ⟨by simp, by simp, rfl, by simp [nRc, zRc]⟩
theorem got80 {k : Int} {n : Nm} {s : RS} : Got 80 (nRc k n) s (nRc k n, s) .clip := by
  intro g x st hne hg hx
  refine raw_of C4s F80 rfl ?_
  have h1 : st.heap.set g (gB s) = st.heap := set_same hg
  have h2 : st.heap.set x (rBt .clip (nRc k n)) = st.heap := set_same hx
  simp (disch := first | omega | (simp only [List.length_take, List.length_drop, List.length_append, List.length_cons, List.length_nil, List.length_map]; omega)) [IntWalk.i64_in, IntWalk.i64_quo, c80]
  exact .inl ⟨by simp, by simp, rfl, by simp [h1, h2]⟩
theorem got69 {k : Int} {n : Nm} {s : RS} (hs : s.1.length ≤ 1000000) : Got 69 (nRc k n) s ({ nRc k n with ws := (rdWr s).1, give := (rd1 (rdWr s).2).1, take := (rd1 (rd1 (rdWr s).2).2).1 }, (rd1 (rd1 (rdWr s).2).2).2) .any := by
  intro g x st hne hg hx
  refine raw_of C4s F69 rfl ?_
  obtain ⟨p1, p2, p3, p4⟩ := two_facts hne hg hx
  have hR : ∀ t r, rBt t r = .cells false [.int .i8 r.kind, .int .i64 r.nm.stamp, .int .i64 r.nm.inc, .int .i64 r.nm.tr, .bool r.yes, .sl t (wrs r.ws), .int .i64 r.give, .int .i64 r.take, .int .i64 r.shards, .int .i64 r.stripe, .int .i64 r.to, .int .i64 r.n] := fun _ _ => rfl
  have l1 := rdWr_le s
  have l2 := rd1_len (rdWr s).2
  simp (disch := first | omega | (simp only [List.length_take, List.length_drop, List.length_append, List.length_cons, List.length_nil, List.length_map]; omega)) [IntWalk.i64_in, IntWalk.i64_quo, c69]
  refine (gwrites_spec hs hg).mono ?_
  rintro _ _ ⟨rfl, rfl⟩
  clear hg hx
  simp (disch := first | omega | (simp only [List.length_take, List.length_drop, List.length_append, List.length_cons, List.length_nil, List.length_map]; omega)) [IntWalk.i64_in, IntWalk.i64_quo, p1, hR]
  refine (gbyte_spec (s := (rdWr s).2) (by omega) (p2 _ _)).mono ?_
  rintro _ _ ⟨rfl, rfl⟩
  simp (disch := first | omega | (simp only [List.length_take, List.length_drop, List.length_append, List.length_cons, List.length_nil, List.length_map]; omega)) [IntWalk.i64_in, IntWalk.i64_quo, p3, p4]
  refine (gbyte_spec (s := (rd1 (rdWr s).2).2) (by omega) (p2 _ _)).mono ?_
  rintro _ _ ⟨rfl, rfl⟩
  simp (disch := first | omega | (simp only [List.length_take, List.length_drop, List.length_append, List.length_cons, List.length_nil, List.length_map]; omega)) [IntWalk.i64_in, IntWalk.i64_quo, p3, p4]
  exact .inl ⟨by simp, by simp, rfl, by simp [nRc, zRc]⟩
theorem got77 {k : Int} {n : Nm} {s : RS} (hs : s.1.length ≤ 1000000) : Got 77 (nRc k n) s ({ nRc k n with shards := (rd1 s).1, stripe := (rd1 (rd1 s).2).1 - 1, to := (rd1 (rd1 (rd1 s).2).2).1 }, (rd1 (rd1 (rd1 s).2).2).2) .clip := by
  intro g x st hne hg hx
  refine raw_of C4s F77 rfl ?_
  obtain ⟨p1, p2, p3, p4⟩ := two_facts hne hg hx
  have hR : ∀ t r, rBt t r = .cells false [.int .i8 r.kind, .int .i64 r.nm.stamp, .int .i64 r.nm.inc, .int .i64 r.nm.tr, .bool r.yes, .sl t (wrs r.ws), .int .i64 r.give, .int .i64 r.take, .int .i64 r.shards, .int .i64 r.stripe, .int .i64 r.to, .int .i64 r.n] := fun _ _ => rfl
  have l1 := rd1_len s
  have l2 := rd1_len (rd1 s).2
  have b2 := rd1_bound (rd1 s).2
  have hw : IntKind.i64.wrap ((rd1 (rd1 s).2).1 - 1) = (rd1 (rd1 s).2).1 - 1 := IntWalk.i64_in _ (by omega)
  simp (disch := first | omega | (simp only [List.length_take, List.length_drop, List.length_append, List.length_cons, List.length_nil, List.length_map]; omega)) [IntWalk.i64_in, IntWalk.i64_quo, c77]
  refine (gbyte_spec hs hg).mono ?_
  rintro _ _ ⟨rfl, rfl⟩
  clear hg hx
  simp (disch := first | omega | (simp only [List.length_take, List.length_drop, List.length_append, List.length_cons, List.length_nil, List.length_map]; omega)) [IntWalk.i64_in, IntWalk.i64_quo, p1, hR]
  refine (gbyte_spec (s := (rd1 s).2) (by omega) (p2 _ _)).mono ?_
  rintro _ _ ⟨rfl, rfl⟩
  simp (disch := first | omega | (simp only [List.length_take, List.length_drop, List.length_append, List.length_cons, List.length_nil, List.length_map]; omega)) [IntWalk.i64_in, IntWalk.i64_quo, p3, p4, hw]
  refine (gbyte_spec (s := (rd1 (rd1 s).2).2) (by omega) (p2 _ _)).mono ?_
  rintro _ _ ⟨rfl, rfl⟩
  simp (disch := first | omega | (simp only [List.length_take, List.length_drop, List.length_append, List.length_cons, List.length_nil, List.length_map]; omega)) [IntWalk.i64_in, IntWalk.i64_quo, p3, p4, hw]
  exact .inl ⟨by simp, by simp, rfl, by simp [nRc, zRc]⟩
theorem got59 {k : Int} {s : RS} {q : Rc × RS} {t : Tok} {f : Nat} (hs : s.1.length ≤ 1000000) (hC : ∀ a, C4 f a = none) (hf : Got f (nRc k (rdNm s).1) (rdNm s).2 q t) {g x : Nat} {st : St} (hne : g ≠ x) (hg : st.heap[g]? = some (gB s)) (hx : st.heap[x]? = some (rBt .clip (zRc k))) :
    ASpec Try.prog 59 [.ptr g 0, .ptr x 0, .rptr (fnA f)] st fun v st' => v = .tup [] ∧ st' = ⟨(st.heap.set g (gB q.2)).set x (rBt t q.1), st.toks⟩ := by
  refine raw_of C4s F59 rfl ?_
  obtain ⟨p1, p2, p3, p4⟩ := two_facts hne hg hx
  have hR2 : Blk.cells false [.int .i8 k, .int .i64 (rdNm s).1.stamp, .int .i64 (rdNm s).1.inc, .int .i64 (rdNm s).1.tr, .bool false, .sl .clip [], .int .i64 0, .int .i64 0, .int .i64 0, .int .i64 0, .int .i64 0, .int .i64 0] = rBt .clip (nRc k (rdNm s).1) := rfl
  simp (disch := first | omega | (simp only [List.length_take, List.length_drop, List.length_append, List.length_cons, List.length_nil, List.length_map]; omega)) [IntWalk.i64_in, IntWalk.i64_quo, c59]
  refine (gname_spec hs hg).mono ?_
  rintro _ _ ⟨rfl, rfl⟩
  clear hg hx
  have p1' : ∀ v, (st.heap.set g v)[x]? = some (.cells false [.int .i8 k, .int .i64 0, .int .i64 0, .int .i64 0, .bool false, .sl .clip [], .int .i64 0, .int .i64 0, .int .i64 0, .int .i64 0, .int .i64 0, .int .i64 0]) := p1
  clear p1
  simp (disch := first | omega | (simp only [List.length_take, List.length_drop, List.length_append, List.length_cons, List.length_nil, List.length_map]; omega)) [IntWalk.i64_in, IntWalk.i64_quo, p1', hC]
  rw [hR2]
  refine (hf hne (p2 _ _) (p3 _ _)).mono ?_
  rintro _ _ ⟨rfl, rfl⟩
  simp (disch := first | omega | (simp only [List.length_take, List.length_drop, List.length_append, List.length_cons, List.length_nil, List.length_map]; omega)) [IntWalk.i64_in, IntWalk.i64_quo]
  exact .inl ⟨by simp, by simp, rfl, by simp [p4]⟩
end Go.Proofs.Ytchaakjbedkndaa

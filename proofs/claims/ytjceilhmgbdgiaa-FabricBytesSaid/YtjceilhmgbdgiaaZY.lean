/- Messages: what the program's fields read, in general. -/
import Derived.Test.YtjceilhmgbdgiaaZX
set_option linter.all false
namespace Go.Proofs.Ytjceilhmgbdgiaa
open Go.Am

inductive ExF (P : Bool → Prop) : Prop where
  | mk (fl : Bool) (h : P fl)
theorem fOk_false (s : RS) : fOk false s := fun h => by cases h
theorem num_gen {n : Nat} {f : Bool} {s : RS} {g : Nat} {st : St} (h3 : n = 1 ∨ n = 2 ∨ n = 3) (hf : fOk f s) (hs : s.1.length ≤ 1000000) (hg : st.heap[g]? = some (gF f s)) :
    ASpec Try.prog 183 [.ptr g 0, .int .i64 n] st fun v st' => v = .int .i64 (numP n s).1 ∧ ExF fun fl => fOk fl (numP n s).2 ∧ st' = ⟨st.heap.set g (gF fl (numP n s).2), st.toks⟩ := by
  by_cases hn : s.1.length < n
  · have e : numP n s = (0, ([], true)) := by rw [numP, if_pos hn]
    rw [e]
    exact (num_bad hn h3 hg).mono fun v st' h => ⟨h.1, .mk true ⟨fun _ => rfl, h.2⟩⟩
  · have e : numP n s = (leV (s.1.take n), (s.1.drop n, s.2)) := by rw [numP, if_neg hn]
    have hff : f = false := by
      cases f with
      | false => rfl
      | true =>
        have := hf rfl
        rw [this] at hn
        simp at hn
        omega
    subst hff
    rw [e]
    have hl : (s.1.take n).length = n := by simp; omega
    have h := num_ok (a := s.1.take n) (t := s.1.drop n) (b := s.2) (g := g) (st := st) (by rw [hl]; exact h3) (by rw [List.take_append_drop]; exact hs) (by rw [List.take_append_drop, hg]; rfl)
    rw [hl] at h
    exact h.mono fun v st' h => ⟨h.1, .mk false ⟨fOk_false _, h.2⟩⟩
theorem numP_bound (n : Nat) (h3 : n = 1 ∨ n = 2 ∨ n = 3) (s : RS) : 0 ≤ (numP n s).1 ∧ (numP n s).1 < 256 ^ n := by
  unfold numP
  split
  · rcases h3 with rfl | rfl | rfl <;> simp
  · rename_i hn
    have hl : (s.1.take n).length = n := by simp; omega
    generalize s.1.take n = a at hl
    rcases h3 with rfl | rfl | rfl
    · match a, hl with
      | [x], _ => have := x.toNat_lt; simp only [leV]; omega
    · match a, hl with
      | [x, y], _ => have := x.toNat_lt; have := y.toNat_lt; simp only [leV]; omega
    · match a, hl with
      | [x, y, z], _ => have := x.toNat_lt; have := y.toNat_lt; have := z.toNat_lt; simp only [leV]; omega
theorem numP_len (n : Nat) (s : RS) : (numP n s).2.1.length ≤ s.1.length := by
  unfold numP
  split <;> simp
/-- A field's reader g, in general. -/
def GetP (g : Nat) (caps : List AV) (x : Ms) (s : RS) (q : Ms × RS) : Prop := ∀ {r l : Nat} {f : Bool} {st : St}, r ≠ l → fOk f s → st.heap[r]? = some (gF f s) → st.heap[l]? = some (mBt .clip x) →
    ASpec Try.prog g ([.ptr r 0, .ptr l 0] ++ caps) st fun v st' => v = .tup [] ∧ ExF fun fl => fOk fl q.2 ∧ st' = ⟨(st.heap.set r (gF fl q.2)).set l (mBt .clip q.1), st.toks⟩
theorem getp_num {x : Ms} {s : RS} {y : Ms} {f off many : Nat} (hs : s.1.length ≤ 1000000) (hf : (f = 194 ∧ off = 8 ∧ y = { x with n := (numP many s).1 }) ∨ (f = 195 ∧ off = 10 ∧ y = { x with block := (numP many s).1 }) ∨ (f = 205 ∧ off = 21 ∧ y = { x with give := (numP many s).1 }) ∨ (f = 206 ∧ off = 22 ∧ y = { x with take := (numP many s).1 })) (hC : C3 f = fun _ => none) (hm : many = 1 ∨ many = 2 ∨ many = 3) :
    GetP 191 [.rptr (.int .i64 many), .rptr (fnA f)] x s (y, (numP many s).2) := by
  intro r l fl0 st hne hfl hr hl
  refine raw_of C3s F191 rfl ?_
  obtain ⟨p1, p2, p3, p4⟩ := two_facts hne hr hl
  have hM : ∀ t m, mBt t m = .cells false [.int .i8 m.kind, .int .i64 m.fr, .int .i64 m.to, .int .i64 m.inc, .int .i64 m.your, .int .i64 m.nm.stamp, .int .i64 m.nm.inc, .int .i64 m.nm.tr, .int .i64 m.n, .int .i8 m.op, .int .i64 m.block, u8 m.val.v0, u8 m.val.v1, u8 m.val.v2, u8 m.val.v3, u8 m.val.v4, u8 m.val.v5, u8 m.val.v6, u8 m.val.v7, .int .i64 m.e, .bool m.yes, .int .i64 m.give, .int .i64 m.take, .sl t (wrs m.ws)] := fun _ _ => rfl
  simp (disch := first | omega | (simp only [LL]; omega)) [WW, c191]
  refine region_state [183] [0] [0, 1, 3, 4, 2, 5, 6, 7] (by decide +kernel) ?_
  simp (disch := first | omega | (simp only [LL]; omega)) [WW, hC]
  have hat : (f = 194 ∧ off = 8) ∨ (f = 195 ∧ off = 10) ∨ (f = 205 ∧ off = 21) ∨ (f = 206 ∧ off = 22) := by rcases hf with h | h | h | h <;> simp [h.1, h.2.1]
  refine (at_spec f off hat _).mono ?_
  rintro _ _ ⟨rfl, rfl⟩
  refine ⟨fun _ => ⟨List.prefix_refl _, List.prefix_refl _⟩, ?_⟩
  simp (disch := first | omega | (simp only [LL]; omega)) [WW]
  refine (num_gen hm hfl hs hr).mono ?_
  rintro _ _ ⟨rfl, ⟨fl, hfl', rfl⟩⟩
  clear hr hl hs hat
  rcases hf with ⟨rfl, rfl, rfl⟩ | ⟨rfl, rfl, rfl⟩ | ⟨rfl, rfl, rfl⟩ | ⟨rfl, rfl, rfl⟩
  all_goals
    simp (disch := first | omega | (simp only [LL]; omega)) [WW, p1, hM]
    exact .inl ⟨by simp, by simp, rfl, .mk fl ⟨hfl', by simp⟩⟩
def opP (s : RS) : Int × RS := ((numP 1 s).1 % 128, ((numP 1 s).2.1, (numP 1 s).2.2 || decide (127 < (numP 1 s).1)))
theorem getp_op {x : Ms} {s : RS} (hs : s.1.length ≤ 1000000) : GetP 197 [] x s ({ x with op := (opP s).1 }, (opP s).2) := by
  intro r l fl0 st hne hfl hr hl
  refine raw_of C3s F197 rfl ?_
  obtain ⟨p1, p2, p3, p4⟩ := two_facts hne hr hl
  have hM : ∀ t m, mBt t m = .cells false [.int .i8 m.kind, .int .i64 m.fr, .int .i64 m.to, .int .i64 m.inc, .int .i64 m.your, .int .i64 m.nm.stamp, .int .i64 m.nm.inc, .int .i64 m.nm.tr, .int .i64 m.n, .int .i8 m.op, .int .i64 m.block, u8 m.val.v0, u8 m.val.v1, u8 m.val.v2, u8 m.val.v3, u8 m.val.v4, u8 m.val.v5, u8 m.val.v6, u8 m.val.v7, .int .i64 m.e, .bool m.yes, .int .i64 m.give, .int .i64 m.take, .sl t (wrs m.ws)] := fun _ _ => rfl
  have hG : ∀ f s, gF f s = .cells false [.sl (if f then .clip else .any) (ofBytes s.1), .bool s.2] := fun _ _ => rfl
  obtain ⟨f1, f2, f3, f4, f5⟩ := at_facts hr
  have hb := numP_bound 1 (by simp) s
  simp (disch := first | omega | (simp only [LL]; omega)) [WW, c197]
  refine (num_gen (n := 1) (by simp) hfl hs hr).mono ?_
  rintro _ _ ⟨rfl, ⟨fl, hfl', rfl⟩⟩
  clear hr hl
  simp only [opP]
  obtain ⟨⟨k, rem, bad⟩, hk⟩ : ∃ q, numP 1 s = q := ⟨_, rfl⟩
  rw [hk] at hb hfl' ⊢
  simp only at hb hfl' ⊢
  have ha : andI k 127 = k % 128 := by
    obtain ⟨n, rfl⟩ := Int.eq_ofNat_of_zero_le hb.1
    have h1 := and_low n 7 127 (by decide) (by omega) (by decide)
    have h2 : some (AV.int .i64 (andI (n : Int) 127)) = some (AV.int .i64 ((n % 2 ^ 7 : Nat) : Int)) := h1
    simp only [Option.some.injEq, AV.int.injEq, true_and] at h2
    rw [h2]
    omega
  have hw : IntKind.i8.wrap (k % 128) = k % 128 := IntWalk.i8_in _ (by omega)
  cases bad
  · have hff : fl = false := by
      cases fl with
      | false => rfl
      | true => have := hfl' rfl; simp at this
    subst hff
    simp (disch := first | omega | (simp only [LL]; omega)) [WW, p1, hM, hG, f3, ha, hw]
    exact .inl ⟨by simp, by simp, rfl, .mk false ⟨fOk_false _, by simp [hG]⟩⟩
  · simp (disch := first | omega | (simp only [LL]; omega)) [WW, p1, hM, hG, f3, ha, hw]
    exact .inl ⟨by simp, by simp, rfl, .mk fl ⟨hfl', by simp [hG]⟩⟩
def yesP (s : RS) : Bool × RS := ((numP 1 s).1 == 1, ((numP 1 s).2.1, (numP 1 s).2.2 || decide (1 < (numP 1 s).1)))
theorem getp_yes {x : Ms} {s : RS} (hs : s.1.length ≤ 1000000) : GetP 204 [] x s ({ x with yes := (yesP s).1 }, (yesP s).2) := by
  intro r l fl0 st hne hfl hr hl
  refine raw_of C3s F204 rfl ?_
  obtain ⟨p1, p2, p3, p4⟩ := two_facts hne hr hl
  have hM : ∀ t m, mBt t m = .cells false [.int .i8 m.kind, .int .i64 m.fr, .int .i64 m.to, .int .i64 m.inc, .int .i64 m.your, .int .i64 m.nm.stamp, .int .i64 m.nm.inc, .int .i64 m.nm.tr, .int .i64 m.n, .int .i8 m.op, .int .i64 m.block, u8 m.val.v0, u8 m.val.v1, u8 m.val.v2, u8 m.val.v3, u8 m.val.v4, u8 m.val.v5, u8 m.val.v6, u8 m.val.v7, .int .i64 m.e, .bool m.yes, .int .i64 m.give, .int .i64 m.take, .sl t (wrs m.ws)] := fun _ _ => rfl
  have hG : ∀ f s, gF f s = .cells false [.sl (if f then .clip else .any) (ofBytes s.1), .bool s.2] := fun _ _ => rfl
  obtain ⟨f1, f2, f3, f4, f5⟩ := at_facts hr
  have hb := numP_bound 1 (by simp) s
  simp (disch := first | omega | (simp only [LL]; omega)) [WW, c204]
  refine (num_gen (n := 1) (by simp) hfl hs hr).mono ?_
  rintro _ _ ⟨rfl, ⟨fl, hfl', rfl⟩⟩
  clear hr hl
  simp only [yesP]
  obtain ⟨⟨k, rem, bad⟩, hk⟩ : ∃ q, numP 1 s = q := ⟨_, rfl⟩
  rw [hk] at hb hfl' ⊢
  simp only at hb hfl' ⊢
  cases bad
  · have hff : fl = false := by
      cases fl with
      | false => rfl
      | true => have := hfl' rfl; simp at this
    subst hff
    simp (disch := first | omega | (simp only [LL]; omega)) [WW, p1, hM, hG, f3]
    exact .inl ⟨by simp, by simp, rfl, .mk false ⟨fOk_false _, by simp [hG]; try rfl⟩⟩
  · simp (disch := first | omega | (simp only [LL]; omega)) [WW, p1, hM, hG, f3]
    exact .inl ⟨by simp, by simp, rfl, .mk fl ⟨hfl', by simp [hG]; try rfl⟩⟩
theorem getp_e {x : Ms} {s : RS} (hs : s.1.length ≤ 1000000) : GetP 202 [] x s ({ x with e := (numP 2 s).1 }, (numP 2 s).2) := by
  intro r l fl0 st hne hfl hr hl
  refine raw_of C3s F202 rfl ?_
  obtain ⟨p1, p2, p3, p4⟩ := two_facts hne hr hl
  have hM : ∀ t m, mBt t m = .cells false [.int .i8 m.kind, .int .i64 m.fr, .int .i64 m.to, .int .i64 m.inc, .int .i64 m.your, .int .i64 m.nm.stamp, .int .i64 m.nm.inc, .int .i64 m.nm.tr, .int .i64 m.n, .int .i8 m.op, .int .i64 m.block, u8 m.val.v0, u8 m.val.v1, u8 m.val.v2, u8 m.val.v3, u8 m.val.v4, u8 m.val.v5, u8 m.val.v6, u8 m.val.v7, .int .i64 m.e, .bool m.yes, .int .i64 m.give, .int .i64 m.take, .sl t (wrs m.ws)] := fun _ _ => rfl
  simp (disch := first | omega | (simp only [LL]; omega)) [WW, c202]
  refine (num_gen (n := 2) (by simp) hfl hs hr).mono ?_
  rintro _ _ ⟨rfl, ⟨fl, hfl', rfl⟩⟩
  clear hr hl
  simp (disch := first | omega | (simp only [LL]; omega)) [WW, p1, hM]
  exact .inl ⟨by simp, by simp, rfl, .mk fl ⟨hfl', by simp⟩⟩
def nameP (s : RS) : Nm × RS := (⟨(numP 3 s).1, (numP 3 (numP 3 s).2).1, (numP 3 (numP 3 (numP 3 s).2).2).1⟩, (numP 3 (numP 3 (numP 3 s).2).2).2)
theorem getp_name {x : Ms} {s : RS} (hs : s.1.length ≤ 1000000) : GetP 193 [] x s ({ x with nm := (nameP s).1 }, (nameP s).2) := by
  intro r l fl0 st hne hfl hr hl
  refine raw_of C3s F193 rfl ?_
  obtain ⟨p1, p2, p3, p4⟩ := two_facts hne hr hl
  have hM : ∀ t m, mBt t m = .cells false [.int .i8 m.kind, .int .i64 m.fr, .int .i64 m.to, .int .i64 m.inc, .int .i64 m.your, .int .i64 m.nm.stamp, .int .i64 m.nm.inc, .int .i64 m.nm.tr, .int .i64 m.n, .int .i8 m.op, .int .i64 m.block, u8 m.val.v0, u8 m.val.v1, u8 m.val.v2, u8 m.val.v3, u8 m.val.v4, u8 m.val.v5, u8 m.val.v6, u8 m.val.v7, .int .i64 m.e, .bool m.yes, .int .i64 m.give, .int .i64 m.take, .sl t (wrs m.ws)] := fun _ _ => rfl
  have l1 := numP_len 3 s
  have l2 := numP_len 3 (numP 3 s).2
  simp (disch := first | omega | (simp only [LL]; omega)) [WW, c193]
  refine region_static rfl (by decide +kernel) ?_
  simp (disch := first | omega | (simp only [LL]; omega)) [WW]
  refine awC_loopU 4 ?_
  simp (disch := first | omega | (simp only [LL]; omega)) [WW]
  refine (num_gen (n := 3) (by simp) hfl hs hr).mono ?_
  rintro _ _ ⟨rfl, ⟨fl, hfl', rfl⟩⟩
  clear hr hl
  simp (disch := first | omega | (simp only [LL]; omega)) [WW, p1, hM]
  refine (num_gen (n := 3) (by simp) hfl' (by omega) (p2 _ _)).mono ?_
  rintro _ _ ⟨rfl, ⟨fl2, hfl2, rfl⟩⟩
  simp (disch := first | omega | (simp only [LL]; omega)) [WW, p3, p4, hM]
  refine (num_gen (n := 3) (by simp) hfl2 (by omega) (p2 _ _)).mono ?_
  rintro _ _ ⟨rfl, ⟨fl3, hfl3, rfl⟩⟩
  simp (disch := first | omega | (simp only [LL]; omega)) [WW, p3, p4, hM]
  exact .inl ⟨by simp, by simp, rfl, .mk fl3 ⟨hfl3, by simp [nameP]⟩⟩
end Go.Proofs.Ytjceilhmgbdgiaa

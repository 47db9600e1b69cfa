/- Messages: values and writes read, in general. -/
import Derived.Test.YtjceilhmgbdgiaaZY
set_option linter.all false
namespace Go.Proofs.Ytjceilhmgbdgiaa
open Go.Am

theorem fin_two {st : St} {l1 l2 : Nat} {b1 b2 : Blk} {g : List Blk} {vs : List AV} {R : AV → St → Prop} (h1 : okBlk st.heap.length st.toks.length b1 = true) (h2 : okBlk st.heap.length st.toks.length b2 = true) (hv : okL st.heap.length st.toks.length vs = true) (hR : R (one vs) ⟨(st.heap.set l1 b1).set l2 b2, st.toks⟩) : finishR st vs ⟨(st.heap.set l1 b1).set l2 b2 ++ g, st.toks⟩ R := by
  refine .inr ⟨⟨(st.heap.set l1 b1).set l2 b2, st.toks⟩, List.prefix_append _ _, List.prefix_refl _, by simp, rfl, fun l' b' h => ?_, by simpa using hv, hR⟩
  simp only [List.length_set]
  rw [List.getElem?_set] at h
  split at h
  · split at h
    · injection h with h
      subst h
      exact .inr h2
    · cases h
  · rw [List.getElem?_set] at h
    split at h
    · split at h
      · injection h with h
        subst h
        exact .inr h1
      · cases h
    · exact .inl h
def vlOf : List UInt8 → Vl
  | [a, b, c, d, e, f, g, h] => ⟨a, b, c, d, e, f, g, h⟩
  | _ => zV
theorem vlB_of {a : List UInt8} (h : a.length = 8) : vlB (vlOf a) = a := by
  match a, h with
  | [_, _, _, _, _, _, _, _], _ => rfl
def tkV (s : RS) : Vl × RS := if s.1.length < 8 then (zV, ([], true)) else (vlOf (s.1.take 8), (s.1.drop 8, s.2))
theorem tkV_len (s : RS) : (tkV s).2.1.length ≤ s.1.length := by
  unfold tkV
  split <;> simp
theorem sized_app {st : St} {g : Nat} {f : Bool} {vs : List AV} (h : st.heap[g]? = some (.cells f vs)) (f' : Bool) (vs' : List AV) (hl : vs'.length = vs.length) (tk : List (Nat × Nat)) (k : List Blk) : sized st ⟨st.heap.set g (.cells f' vs') ++ k, tk⟩ := by
  intro l fl ws hw
  obtain ⟨f2, v2, h1, h2⟩ := sized_set h f' vs' hl tk l fl ws hw
  exact ⟨f2, v2, by show (st.heap.set g _ ++ k)[l]? = _; rw [List.getElem?_append_left (List.getElem?_eq_some_iff.1 h1).1]; exact h1, h2⟩
theorem getp_value {x : Ms} {s : RS} (hb : s.2 = false) (hs : s.1.length ≤ 1000000) : GetP 199 [] x s ({ x with val := (tkV s).1 }, (tkV s).2) := by
  intro r l fl0 st hne hfl hr hl
  obtain ⟨sl, sb⟩ := s
  simp only at hb
  subst hb
  have hb : True := trivial
  generalize hse : ((sl, false) : RS) = s at *
  by_cases hn : s.1.length < 8
  · have e : tkV s = (zV, ([], true)) := by rw [tkV, if_pos hn]
    rw [e]
    refine raw_of C3s F199 rfl ?_
    obtain ⟨p1, p2, p3, p4⟩ := two_facts hne hr hl
    obtain ⟨q1, q2, q3, q4⟩ := two_facts2 hne hr hl
    have hM : ∀ t m, mBt t m = .cells false [.int .i8 m.kind, .int .i64 m.fr, .int .i64 m.to, .int .i64 m.inc, .int .i64 m.your, .int .i64 m.nm.stamp, .int .i64 m.nm.inc, .int .i64 m.nm.tr, .int .i64 m.n, .int .i8 m.op, .int .i64 m.block, u8 m.val.v0, u8 m.val.v1, u8 m.val.v2, u8 m.val.v3, u8 m.val.v4, u8 m.val.v5, u8 m.val.v6, u8 m.val.v7, .int .i64 m.e, .bool m.yes, .int .i64 m.give, .int .i64 m.take, .sl t (wrs m.ws)] := fun _ _ => rfl
    have hG : ∀ f s, gF f s = .cells false [.sl (if f then .clip else .any) (ofBytes s.1), .bool s.2] := fun _ _ => rfl
    have hll := (List.getElem?_eq_some_iff.1 hl).1
    rw [hM] at hl p1
    have e1 : ∀ v (b : Blk), (st.heap.set r v ++ [b])[st.heap.length]? = some b := fun v b => by
      rw [List.getElem?_append_right (by simp)]; simp
    have e2 : ∀ v (b : Blk), (st.heap.set r v ++ [b])[l]? = some (.cells false [.int .i8 x.kind, .int .i64 x.fr, .int .i64 x.to, .int .i64 x.inc, .int .i64 x.your, .int .i64 x.nm.stamp, .int .i64 x.nm.inc, .int .i64 x.nm.tr, .int .i64 x.n, .int .i8 x.op, .int .i64 x.block, u8 x.val.v0, u8 x.val.v1, u8 x.val.v2, u8 x.val.v3, u8 x.val.v4, u8 x.val.v5, u8 x.val.v6, u8 x.val.v7, .int .i64 x.e, .bool x.yes, .int .i64 x.give, .int .i64 x.take, .sl .clip (wrs x.ws)]) := fun v b => by
      rw [List.getElem?_append_left (by simpa using hll)]; exact p1 v
    have e3 : ∀ v (b : Blk) w, (st.heap.set r v ++ [b]).set l w = (st.heap.set r v).set l w ++ [b] := fun v b w => by
      rw [List.set_append_left _ _ (by simpa using hll)]
    clear hll
    simp (disch := first | omega | (simp only [LL]; omega)) [WW, c199]
    refine region_sized [] [] [200] [0, 1, 2, 3, 4, 5, 6] (by decide +kernel) ?_
    simp (disch := first | omega | (simp only [LL]; omega)) [WW, hl]
    refine (take_bad (n := 8) hn (by decide) hr).mono ?_
    rintro _ _ ⟨rfl, rfl⟩
    refine ⟨fun _ => ?_, ?_⟩
    · rw [hG] at hr ⊢
      refine sized_app hr false _ ?_ _ _
      rfl
    clear hr hl
    simp (disch := first | omega | (simp only [LL]; omega)) [WW, e1, e2, e3, z8]
    simp only [evA, AOp.cls, evW, srcEs, e1, e2]
    simp (disch := first | omega | (simp only [LL]; omega)) [WW, e1, e2, e3, z8, ofBytes, chunk, mkElem, flat, AV.cells, setRange]
    refine fin_two (by simp [gF]) (by simp) (by simp) ⟨rfl, .mk true ⟨fun _ => rfl, ?_⟩⟩
    rw [hM]
    rfl
  · have e : tkV s = (vlOf (s.1.take 8), (s.1.drop 8, s.2)) := by rw [tkV, if_neg hn]
    have hff : fl0 = false := by
      cases fl0 with
      | false => rfl
      | true =>
        have := hfl rfl
        rw [this] at hn
        simp at hn
    subst hff
    subst hse
    rw [e]
    have h8 : (sl.take 8).length = 8 := by simp at hn ⊢; omega
    have hv := vlB_of h8
    have h := get_value (m := { x with val := vlOf (sl.take 8) }) (x := x) (r := r) (l := l) (t := sl.drop 8) (st := st) hne (by rw [hv, List.take_append_drop]; exact hs) (by rw [hv, List.take_append_drop, hr]; rfl) hl
    exact h.mono fun v st' h => ⟨h.1, .mk false ⟨fOk_false _, h.2⟩⟩
def wsP : Nat → RS → List Wr × RS
  | 0, s => ([], s)
  | n + 1, s => if s.2 = true then ([], s) else
    (⟨(numP 1 s).1, (tkV (numP 1 s).2).1.v0, (tkV (numP 1 s).2).1.v1, (tkV (numP 1 s).2).1.v2, (tkV (numP 1 s).2).1.v3, (tkV (numP 1 s).2).1.v4, (tkV (numP 1 s).2).1.v5, (tkV (numP 1 s).2).1.v6, (tkV (numP 1 s).2).1.v7⟩ :: (wsP n (tkV (numP 1 s).2).2).1, (wsP n (tkV (numP 1 s).2).2).2)
def wrsP (s : RS) : List Wr × RS := wsP (numP 1 s).1.toNat (numP 1 s).2
theorem wsP_bad (n : Nat) {s : RS} (h : s.2 = true) : wsP n s = ([], s) := by
  cases n with
  | zero => rfl
  | succ n => rw [wsP, if_pos h]
def GPI (r l : Nat) (x : Ms) (s1 : RS) (n : Nat) (st : St) (j : Nat) (env : Env) (s : St) : Prop :=
  ∃ i acc σ f g, j + i = n ∧ acc.length = i ∧ env 0 = .ptr r 0 ∧ env 1 = .ptr l 0 ∧ env 4 = .int .i64 j ∧ σ.1.length ≤ 1000000 ∧ fOk f σ ∧ wsP n s1 = (acc ++ (wsP (n - i) σ).1, (wsP (n - i) σ).2) ∧
    s = ⟨(st.heap.set r (gF f σ)).set l (mBt (tkW st i) { x with ws := acc }) ++ g, tksW st i⟩
theorem getp_writes {x : Ms} {s : RS} (hx : x.ws = []) (hs : s.1.length ≤ 1000000) {r l : Nat} {f0 : Bool} {st : St} (hne : r ≠ l) (hfl : fOk f0 s) (hr : st.heap[r]? = some (gF f0 s)) (hl : st.heap[l]? = some (mBt .clip x)) :
    ASpec Try.prog 208 [.ptr r 0, .ptr l 0] st fun v st' => v = .tup [] ∧ ExF fun fl => fOk fl (wrsP s).2 ∧ ∃ g, st' = ⟨(st.heap.set r (gF fl (wrsP s).2)).set l (mBt (tkW st (wrsP s).1.length) { x with ws := (wrsP s).1 }) ++ g, tksW st (wrsP s).1.length⟩ := by
  refine raw_of C3s F208 rfl ?_
  obtain ⟨p1, p2, p3, p4⟩ := two_facts hne hr hl
  obtain ⟨q1, q2, q3, q4⟩ := two_facts2 hne hr hl
  have hM : ∀ t m, mBt t m = .cells false [.int .i8 m.kind, .int .i64 m.fr, .int .i64 m.to, .int .i64 m.inc, .int .i64 m.your, .int .i64 m.nm.stamp, .int .i64 m.nm.inc, .int .i64 m.nm.tr, .int .i64 m.n, .int .i8 m.op, .int .i64 m.block, u8 m.val.v0, u8 m.val.v1, u8 m.val.v2, u8 m.val.v3, u8 m.val.v4, u8 m.val.v5, u8 m.val.v6, u8 m.val.v7, .int .i64 m.e, .bool m.yes, .int .i64 m.give, .int .i64 m.take, .sl t (wrs m.ws)] := fun _ _ => rfl
  have hG : ∀ f s, gF f s = .cells false [.sl (if f then .clip else .any) (ofBytes s.1), .bool s.2] := fun _ _ => rfl
  have hb1 := numP_bound 1 (by simp) s
  have hl1 := numP_len 1 s
  simp (disch := first | omega | (simp only [LL]; omega)) [WW, c208]
  refine (num_gen (n := 1) (by simp) hfl hs hr).mono ?_
  rintro _ _ ⟨rfl, ⟨f1, hf1, rfl⟩⟩
  obtain ⟨n, hn⟩ : ∃ n : Nat, (numP 1 s).1 = n := ⟨(numP 1 s).1.toNat, by omega⟩
  have hW : wrsP s = wsP n (numP 1 s).2 := by rw [wrsP, hn, Int.toNat_natCast]
  rw [hn, hW]
  rw [hn] at hb1
  simp (disch := first | omega | (simp only [LL]; omega)) [WW]
  refine awC_loopW (GPI r l x (numP 1 s).2 n st) n ?_ ?_
  · refine ⟨0, [], (numP 1 s).2, f1, [], rfl, rfl, by simp, by simp, by simp, by omega, hf1, by simp, ?_⟩
    have : ({ x with ws := [] } : Ms) = x := by rw [← hx]
    simp [tkW, tksW, this, set_same (p1 _)]
  clear hr hl
  rintro j env w ⟨i, acc, σ, fi, g, hj, hacc, e0, e1, e4, hσ, hfi, hr, rfl⟩
  have fin : wsP (n - i) σ = ([], σ) → finishR st [] ⟨(st.heap.set r (gF fi σ)).set l (mBt (tkW st i) { x with ws := acc }) ++ g, tksW st i⟩ fun v st' => v = .tup [] ∧ ExF fun fl => fOk fl (wsP n (numP 1 s).2).2 ∧ ∃ g, st' = ⟨(st.heap.set r (gF fl (wsP n (numP 1 s).2).2)).set l (mBt (tkW st (wsP n (numP 1 s).2).1.length) { x with ws := (wsP n (numP 1 s).2).1 }) ++ g, tksW st (wsP n (numP 1 s).2).1.length⟩ := fun h0 => by
    rw [hr, h0]
    simp only [List.append_nil, hacc]
    exact .inl ⟨by simp, by simp [tksW]; split <;> simp, rfl, .mk fi ⟨hfi, g, rfl⟩⟩
  by_cases hi : i < n
  · have hj' : 0 < j := by omega
    obtain ⟨rem, bad⟩ := σ
    cases bad with
    | true =>
      have := fin (wsP_bad _ rfl)
      rw [hG] at this ⊢
      simp (disch := first | omega | (simp only [LL]; omega)) [WW, e0, e1, e4, hj', q1]
      exact this
    | false =>
      clear fin
      have hff : fi = false := by
        cases fi with
        | false => rfl
        | true => have := hfi rfl; simp at this
      subst hff
      have hstep : wsP (n - i) (rem, false) = (⟨(numP 1 (rem, false)).1, (tkV (numP 1 (rem, false)).2).1.v0, (tkV (numP 1 (rem, false)).2).1.v1, (tkV (numP 1 (rem, false)).2).1.v2, (tkV (numP 1 (rem, false)).2).1.v3, (tkV (numP 1 (rem, false)).2).1.v4, (tkV (numP 1 (rem, false)).2).1.v5, (tkV (numP 1 (rem, false)).2).1.v6, (tkV (numP 1 (rem, false)).2).1.v7⟩ :: (wsP (n - (i + 1)) (tkV (numP 1 (rem, false)).2).2).1, (wsP (n - (i + 1)) (tkV (numP 1 (rem, false)).2).2).2) := by
        rw [show n - i = (n - (i + 1)) + 1 by omega, wsP, if_neg (by simp)]
      have hlt := numP_len 1 (rem, false)
      have hG2 : ∀ a b, Blk.cells false [.sl .any (ofBytes a), .bool b] = gF false (a, b) := fun _ _ => rfl
      have q5 : ∀ v w k y, ((st.heap.set r v).set l w ++ (k ++ [y]))[st.heap.length + k.length]? = some y := fun v w k y => by
        rw [← List.append_assoc, List.getElem?_append_right (by simp)]; simp
      have q6 : ∀ v w k y z, ((st.heap.set r v).set l w ++ (k ++ [y])).set (st.heap.length + k.length) z = (st.heap.set r v).set l w ++ (k ++ [z]) := fun v w k y z => by
        rw [← List.append_assoc, List.set_append_right _ _ (by simp)]; simp
      rw [hG]
      simp (disch := first | omega | (simp only [LL]; omega)) [WW, e0, e1, e4, hj', q1]
      rw [hG2]
      refine (num_gen (n := 1) (by simp) hfi hσ (q1 _ _ _)).mono ?_
      rintro _ _ ⟨rfl, ⟨f2, hf2, rfl⟩⟩
      obtain ⟨⟨bl, τ⟩, hτ⟩ : ∃ q, numP 1 (rem, false) = q := ⟨_, rfl⟩
      rw [hτ] at hstep hlt hf2 ⊢
      simp only at hstep hlt hf2 hσ ⊢
      simp (disch := first | omega | (simp only [LL]; omega)) [WW, e0, e1, e4, hj', q1, q3, q5, q6]
      refine region_sized [] [] [200] [0, 1, 2, 3, 4] (by decide +kernel) ?_
      simp (disch := first | omega | (simp only [LL]; omega)) [WW, e0, e1, e4, hj', q1, q3, q5, q6]
      by_cases hsh : τ.1.length < 8
      · have eV : tkV τ = (zV, ([], true)) := by rw [tkV, if_pos hsh]
        rw [eV] at hstep
        refine (take_bad (n := 8) hsh (by decide) (q1 _ _ _)).mono ?_
        rintro _ _ ⟨rfl, rfl⟩
        refine ⟨fun _ => ?_, ?_⟩
        · have := q1 (gF f2 τ) (mBt (tkW st i) { x with ws := acc }) (g ++ [.cells false [.int .i64 bl, .int .u8 0, .int .u8 0, .int .u8 0, .int .u8 0, .int .u8 0, .int .u8 0, .int .u8 0, .int .u8 0]])
          rw [hG] at this ⊢
          refine sized_app this false _ ?_ _ _
          rfl
        rw [q3]
        have q7 : ∀ v w k y z, ((st.heap.set r v).set l w ++ (k ++ [y, z]))[st.heap.length + k.length]? = some y := fun v w k y z => by
          rw [← List.append_assoc, List.getElem?_append_right (by simp)]; simp
        have q8 : ∀ v w k y z, ((st.heap.set r v).set l w ++ (k ++ [y, z]))[st.heap.length + (k.length + 1)]? = some z := fun v w k y z => by
          rw [← List.append_assoc, List.getElem?_append_right (by simp), show st.heap.length + (k.length + 1) - ((st.heap.set r v).set l w ++ k).length = 1 by simp; omega]; rfl
        have q9 : ∀ v w k y z u, ((st.heap.set r v).set l w ++ (k ++ [y, z])).set (st.heap.length + k.length) u = (st.heap.set r v).set l w ++ (k ++ [u, z]) := fun v w k y z u => by
          rw [← List.append_assoc, List.set_append_right _ _ (by simp)]; simp
        simp (disch := first | omega | (simp only [LL]; omega)) [WW, e0, e1, e4, hj', q1, q3, q7, q8, q9, z8]
        simp only [evA, AOp.cls, evW, srcEs, q7, q8]
        simp (disch := first | omega | (simp only [LL]; omega)) [WW, q7, q8, q9, z8, ofBytes, chunk, mkElem, flat, AV.cells, setRange]
        refine region_static rfl (by decide +kernel) ?_
        simp (disch := first | omega | (simp only [LL]; omega)) [WW, e0, e1, e4, hj', q2, q4, q7, q8, q9, hM]
        by_cases h0 : i = 0
        · subst h0
          have ha0 : acc = [] := List.length_eq_zero_iff.1 hacc
          subst ha0
          simp (disch := first | omega | (simp only [LL]; omega)) [WW, tkW, tksW]
          simp (disch := first | omega | (simp only [LL]; omega)) [WW, q2, q4, e0, e1, e4, hM]
          refine ⟨j - 1, by omega, 1, [] ++ [⟨bl, 0, 0, 0, 0, 0, 0, 0, 0⟩], ([], true), true, g ++ [.cells false (wrA ⟨bl, 0, 0, 0, 0, 0, 0, 0, 0⟩).cells, .cells false (ofBytes (z8 8))], by omega, by simp [hacc], by simp [e0], by simp [e1], by simp; omega, by simp, fun _ => rfl, by rw [hr, hstep]; simp [zV], ?_⟩
          rw [hM]
          rfl
        · simp (disch := first | omega | (simp only [LL]; omega)) [WW, tkW, tksW, h0, hacc]
          refine ⟨by omega, ?_⟩
          simp (disch := first | omega | (simp only [LL]; omega)) [WW, q2, q4, e0, e1, e4, hM]
          refine ⟨j - 1, by omega, i + 1, acc ++ [⟨bl, 0, 0, 0, 0, 0, 0, 0, 0⟩], ([], true), true, g ++ [.cells false (wrA ⟨bl, 0, 0, 0, 0, 0, 0, 0, 0⟩).cells, .cells false (ofBytes (z8 8))], by omega, by simp [hacc], by simp [e0], by simp [e1], by simp; omega, by simp, fun _ => rfl, by rw [hr, hstep]; simp [zV], ?_⟩
          rw [hM]
          simp only [wrs, List.map_append, List.map_cons, List.map_nil, tkW, tksW, if_neg h0, if_neg (show ¬ i + 1 = 0 by omega)]
          rfl
      · have eV : tkV τ = (vlOf (τ.1.take 8), (τ.1.drop 8, τ.2)) := by rw [tkV, if_neg hsh]
        rw [eV] at hstep
        have hff : f2 = false := by
          cases f2 with
          | false => rfl
          | true =>
            have := hf2 rfl
            rw [this] at hsh
            simp at hsh
        subst hff
        have h8 : (τ.1.take 8).length = 8 := by simp; omega
        have hτe : τ.1 = τ.1.take 8 ++ τ.1.drop 8 := (List.take_append_drop 8 τ.1).symm
        obtain ⟨a, ha⟩ : ∃ a, τ.1.take 8 = a := ⟨_, rfl⟩
        obtain ⟨t8, ht8⟩ : ∃ t, τ.1.drop 8 = t := ⟨_, rfl⟩
        rw [ha] at hstep h8 hτe
        rw [ht8] at hstep hτe
        have ht8l : t8.length ≤ 1000000 := by rw [← ht8]; simp; omega
        have hτ2 : τ = (a ++ t8, τ.2) := Prod.ext hτe rfl
        have hal : (a ++ t8).length ≤ 1000000 := by rw [← hτe]; omega
        rw [hτ2]
        have h8n : (a.length : Int) = 8 := by omega
        have hgf : ∀ q, gF false q = gB q := fun _ => rfl
        rw [hgf]
        have htk := take_ok (a := a) (t := t8) (b := τ.2) (g := r) (st := ⟨(st.heap.set r (gB (a ++ t8, τ.2))).set l (mBt (tkW st i) { x with ws := acc }) ++ (g ++ [.cells false [.int .i64 bl, .int .u8 0, .int .u8 0, .int .u8 0, .int .u8 0, .int .u8 0, .int .u8 0, .int .u8 0, .int .u8 0]]), tksW st i⟩) hal (q1 _ _ _)
        rw [h8] at htk
        refine htk.mono ?_
        rintro _ _ ⟨rfl, rfl⟩
        refine ⟨fun _ => ?_, ?_⟩
        · have := q1 (gB (a ++ t8, τ.2)) (mBt (tkW st i) { x with ws := acc }) (g ++ [.cells false [.int .i64 bl, .int .u8 0, .int .u8 0, .int .u8 0, .int .u8 0, .int .u8 0, .int .u8 0, .int .u8 0, .int .u8 0]])
          rw [← hgf, hG] at this ⊢
          refine sized_set this false _ ?_ _
          rfl
        rw [q3]
        match a, h8 with
        | [b0, b1, b2, b3, b4, b5, b6, b7], _ =>
        simp (disch := first | omega | (simp only [LL]; omega)) [WW, e0, e1, e4, hj', q1, q3, q5, q6]
        refine region_static rfl (by decide +kernel) ?_
        simp (disch := first | omega | (simp only [LL]; omega)) [WW, e0, e1, e4, hj', q2, q4, q5, q6, hM, ofBytes, setRange]
        by_cases h0 : i = 0
        · subst h0
          have ha0 : acc = [] := List.length_eq_zero_iff.1 hacc
          subst ha0
          simp (disch := first | omega | (simp only [LL]; omega)) [WW, tkW, tksW]
          simp (disch := first | omega | (simp only [LL]; omega)) [WW, q2, q4, e0, e1, e4, hM]
          refine ⟨j - 1, by omega, 1, [] ++ [⟨bl, b0, b1, b2, b3, b4, b5, b6, b7⟩], (t8, τ.2), false, g ++ [.cells false (wrA ⟨bl, b0, b1, b2, b3, b4, b5, b6, b7⟩).cells], by omega, by simp [hacc], by simp [e0], by simp [e1], by simp; omega, ht8l, fOk_false _, by rw [hr, hstep]; simp [vlOf], ?_⟩
          rw [hM]
          rfl
        · simp (disch := first | omega | (simp only [LL]; omega)) [WW, tkW, tksW, h0, hacc]
          refine ⟨by omega, ?_⟩
          simp (disch := first | omega | (simp only [LL]; omega)) [WW, q2, q4, e0, e1, e4, hM]
          refine ⟨j - 1, by omega, i + 1, acc ++ [⟨bl, b0, b1, b2, b3, b4, b5, b6, b7⟩], (t8, τ.2), false, g ++ [.cells false (wrA ⟨bl, b0, b1, b2, b3, b4, b5, b6, b7⟩).cells], by omega, by simp [hacc], by simp [e0], by simp [e1], by simp; omega, ht8l, fOk_false _, by rw [hr, hstep]; simp [vlOf], ?_⟩
          rw [hM]
          simp only [wrs, List.map_append, List.map_cons, List.map_nil, tkW, tksW, if_neg h0, if_neg (show ¬ i + 1 = 0 by omega)]
          rfl
  · have hj' : ¬ 0 < j := by omega
    have := fin (by rw [show n - i = 0 by omega]; rfl)
    simp (disch := first | omega | (simp only [LL]; omega)) [WW, e0, e1, e4, hj']
    exact this
end Go.Proofs.Ytjceilhmgbdgiaa

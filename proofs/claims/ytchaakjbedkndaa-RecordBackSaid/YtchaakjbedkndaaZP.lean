/- Records: which may be, the program's. -/
import Derived.Test.YtchaakjbedkndaaZO
set_option linter.all false
namespace Go.Proofs.Ytchaakjbedkndaa
open Go.Am

theorem may_num {r : Rc} (hk : r.kind = 6 ∨ r.kind = 7) (m : Int) (h1 : formsC[r.kind.toNat * 3 + 2]? = some (.fn (.func 55) [] [.rptr (.int .i64 m)])) (h2 : formsC[r.kind.toNat * 3 + 1]? = some (fnA 53))
    (hm : suchR r = decide (1 ≤ r.n ∧ r.n ≤ m)) (hl : r.ws.length ≤ 1048576) (st : St) : ASpec Try.prog 14 [.agg (rcC r)] st fun v st' => v = .bool (mayR r) ∧ st' = st := by
  refine pure_of (R := fun v => v = _) C4s F14 rfl ?_
  have hk' : 1 ≤ r.kind ∧ r.kind ≤ 7 := by omega
  have hb6 : (putR r).length ≤ 1000000 := by rcases hk with h | h <;> simp [putR, h, le3]
  have hq : rdBody r.kind (putR r, false) = ({ zRc r.kind with n := (rd3 (putR r, false)).1 }, (rd3 (putR r, false)).2) := by rcases hk with h | h <;> simp [rdBody, h, zRc]
  have hol1 := (List.getElem?_eq_some_iff.1 h1).1
  have hol2 := (List.getElem?_eq_some_iff.1 h2).1
  have ho1 : ∀ h, formsC[r.kind.toNat * 3 + 2]'h = .fn (.func 55) [] [.rptr (.int .i64 m)] := fun h => (List.getElem?_eq_some_iff.1 h1).2
  have ho2 : ∀ h, formsC[r.kind.toNat * 3 + 1]'h = fnA 53 := fun h => (List.getElem?_eq_some_iff.1 h2).2
  clear h1 h2
  simp (disch := first | omega | (simp only [List.length_take, List.length_drop, List.length_append, List.length_cons, List.length_nil, List.length_map]; omega)) [IntWalk.i64_in, IntWalk.i64_quo, c14]
  refine (of_some r.kind (by omega) _).mono ?_
  rintro _ _ ⟨rfl, rfl⟩
  simp (disch := first | omega | (simp only [List.length_take, List.length_drop, List.length_append, List.length_cons, List.length_nil, List.length_map]; omega)) [IntWalk.i64_in, IntWalk.i64_quo, ho1, ho2, hol1, hol2]
  refine (such55 (r := r) (by simp [rB])).mono ?_
  rintro _ _ ⟨rfl, rfl⟩
  rw [← hm]
  cases hs : suchR r with
  | false =>
    simp (disch := first | omega | (simp only [List.length_take, List.length_drop, List.length_append, List.length_cons, List.length_nil, List.length_map]; omega)) [IntWalk.i64_in, IntWalk.i64_quo]
    rw [may_such, hs]; simp
  | true =>
    simp (disch := first | omega | (simp only [List.length_take, List.length_drop, List.length_append, List.length_cons, List.length_nil, List.length_map]; omega)) [IntWalk.i64_in, IntWalk.i64_quo]
    refine region_state [] [33] [0, 1, 2, 3, 4, 5, 6, 7, 8] (by decide +kernel) ?_
    simp (disch := first | omega | (simp only [List.length_take, List.length_drop, List.length_append, List.length_cons, List.length_nil, List.length_map]; omega)) [IntWalk.i64_in, IntWalk.i64_quo, ho1, ho2, hol1, hol2]
    refine (body_spec (r := r) hk' hs (by simp) (by simp [rB])).mono ?_
    rintro _ _ ⟨rfl, rfl⟩
    refine ⟨fun _ => ⟨List.prefix_refl _, List.prefix_refl _⟩, ?_⟩
    simp (disch := first | omega | (simp only [List.length_take, List.length_drop, List.length_append, List.length_cons, List.length_nil, List.length_map]; omega)) [IntWalk.i64_in, IntWalk.i64_quo]
    refine (got53 (k := r.kind) (s := (putR r, false)) hb6 (by omega) (by simp [gB]) (by simp [rBt, zRc])).mono ?_
    rintro _ _ ⟨rfl, rfl⟩
    rw [← hq, rd_put hk' hs]
    have hT : ∀ t r, rBt t r = .cells false [.int .i8 r.kind, .int .i64 r.nm.stamp, .int .i64 r.nm.inc, .int .i64 r.nm.tr, .bool r.yes, .sl t (wrs r.ws), .int .i64 r.give, .int .i64 r.take, .int .i64 r.shards, .int .i64 r.stripe, .int .i64 r.to, .int .i64 r.n] := fun _ _ => rfl
    clear hq
    rw [may_such, hs]
    obtain ⟨x, hfx⟩ : ∃ x, fieldsR r = x := ⟨_, rfl⟩
    rw [hfx]
    simp (disch := first | omega | (simp only [List.length_take, List.length_drop, List.length_append, List.length_cons, List.length_nil, List.length_map]; omega)) [IntWalk.i64_in, IntWalk.i64_quo, hT]
    repeat' first
      | (refine region_static rfl (by decide +kernel) ?_; try simp (disch := first | omega | (simp only [List.length_take, List.length_drop, List.length_append, List.length_cons, List.length_nil, List.length_map]; omega)) [IntWalk.i64_in, IntWalk.i64_quo, hT])
      | (refine And.intro (by omega) ?_; try simp (disch := first | omega | (simp only [List.length_take, List.length_drop, List.length_append, List.length_cons, List.length_nil, List.length_map]; omega)) [IntWalk.i64_in, IntWalk.i64_quo, hT])
      | (refine guardK_ndec (fun h => ?_) (fun h => ?_) <;> (try simp (disch := first | omega | (simp only [List.length_take, List.length_drop, List.length_append, List.length_cons, List.length_nil, List.length_map]; omega)) [h, IntWalk.i64_in, IntWalk.i64_quo, hT]))
      | (refine guardK_dec (fun h => ?_) (fun h => ?_) <;> (try simp (disch := first | omega | (simp only [List.length_take, List.length_drop, List.length_append, List.length_cons, List.length_nil, List.length_map]; omega)) [h, IntWalk.i64_in, IntWalk.i64_quo, hT]))
      | (refine guardK_nbeq (fun h => ?_) (fun h => ?_) <;> (try simp (disch := first | omega | (simp only [List.length_take, List.length_drop, List.length_append, List.length_cons, List.length_nil, List.length_map]; omega)) [h, IntWalk.i64_in, IntWalk.i64_quo, hT]))
      | (refine guardK_beq (fun h => ?_) (fun h => ?_) <;> (try simp (disch := first | omega | (simp only [List.length_take, List.length_drop, List.length_append, List.length_cons, List.length_nil, List.length_map]; omega)) [h, IntWalk.i64_in, IntWalk.i64_quo, hT]))
      | (refine guardK_bne (fun h => ?_) (fun h => ?_) <;> (try simp (disch := first | omega | (simp only [List.length_take, List.length_drop, List.length_append, List.length_cons, List.length_nil, List.length_map]; omega)) [h, IntWalk.i64_in, IntWalk.i64_quo, hT]))
      | (refine guardK_not (fun h => ?_) (fun h => ?_) <;> (try simp (disch := first | omega | (simp only [List.length_take, List.length_drop, List.length_append, List.length_cons, List.length_nil, List.length_map]; omega)) [h, IntWalk.i64_in, IntWalk.i64_quo, hT]))
      | (refine guardK_split (fun h => ?_) (fun h => ?_) <;> (try simp (disch := first | omega | (simp only [List.length_take, List.length_drop, List.length_append, List.length_cons, List.length_nil, List.length_map]; omega)) [h, IntWalk.i64_in, IntWalk.i64_quo, hT]))
      | (refine condK_ndec (fun h => ?_) (fun h => ?_) <;> (try simp (disch := first | omega | (simp only [List.length_take, List.length_drop, List.length_append, List.length_cons, List.length_nil, List.length_map]; omega)) [h, IntWalk.i64_in, IntWalk.i64_quo, hT]))
      | (refine condK_dec (fun h => ?_) (fun h => ?_) <;> (try simp (disch := first | omega | (simp only [List.length_take, List.length_drop, List.length_append, List.length_cons, List.length_nil, List.length_map]; omega)) [h, IntWalk.i64_in, IntWalk.i64_quo, hT]))
      | (refine condK_nbeq (fun h => ?_) (fun h => ?_) <;> (try simp (disch := first | omega | (simp only [List.length_take, List.length_drop, List.length_append, List.length_cons, List.length_nil, List.length_map]; omega)) [h, IntWalk.i64_in, IntWalk.i64_quo, hT]))
      | (refine condK_beq (fun h => ?_) (fun h => ?_) <;> (try simp (disch := first | omega | (simp only [List.length_take, List.length_drop, List.length_append, List.length_cons, List.length_nil, List.length_map]; omega)) [h, IntWalk.i64_in, IntWalk.i64_quo, hT]))
      | (refine condK_bne (fun h => ?_) (fun h => ?_) <;> (try simp (disch := first | omega | (simp only [List.length_take, List.length_drop, List.length_append, List.length_cons, List.length_nil, List.length_map]; omega)) [h, IntWalk.i64_in, IntWalk.i64_quo, hT]))
      | (refine condK_not (fun h => ?_) (fun h => ?_) <;> (try simp (disch := first | omega | (simp only [List.length_take, List.length_drop, List.length_append, List.length_cons, List.length_nil, List.length_map]; omega)) [h, IntWalk.i64_in, IntWalk.i64_quo, hT]))
      | (refine condK_split (fun h => ?_) (fun h => ?_) <;> (try simp (disch := first | omega | (simp only [List.length_take, List.length_drop, List.length_append, List.length_cons, List.length_nil, List.length_map]; omega)) [h, IntWalk.i64_in, IntWalk.i64_quo, hT]))
    simp [hk']
theorem may_nm {r : Rc} (hk : 1 ≤ r.kind ∧ r.kind ≤ 5) {G S : Nat} {b : Bool} {q : Rc × RS} {t : Tok} (h1 : formsC[r.kind.toNat * 3 + 2]? = some (.fn (.func 61) [] [.rptr (fnA S)])) (h2 : formsC[r.kind.toNat * 3 + 1]? = some (.fn (.func 59) [] [.rptr (fnA G)]))
    (hCS : ∀ a, C4 S a = none) (hCG : ∀ a, C4 G a = none) (hS : ∀ {l st}, st.heap[l]? = some (rB r) → ASpec Try.prog S [.ptr l 0] st fun v st' => v = .bool b ∧ st' = st)
    (hG : (putR r).length ≤ 1000000 → Got G (nRc r.kind (rdNm (putR r, false)).1) (rdNm (putR r, false)).2 q t) (hq : q = rdBody r.kind (putR r, false)) (ht : t = .any ∨ t = .clip)
    (hm : suchR r = (named r.nm && b)) (hlen : suchR r = true → (putR r).length ≤ 1000000) (hl : r.ws.length ≤ 1048576) (st : St) : ASpec Try.prog 14 [.agg (rcC r)] st fun v st' => v = .bool (mayR r) ∧ st' = st := by
  refine pure_of (R := fun v => v = _) C4s F14 rfl ?_
  have hk' : 1 ≤ r.kind ∧ r.kind ≤ 7 := by omega
  have hol1 := (List.getElem?_eq_some_iff.1 h1).1
  have hol2 := (List.getElem?_eq_some_iff.1 h2).1
  have ho1 : ∀ h, formsC[r.kind.toNat * 3 + 2]'h = .fn (.func 61) [] [.rptr (fnA S)] := fun h => (List.getElem?_eq_some_iff.1 h1).2
  have ho2 : ∀ h, formsC[r.kind.toNat * 3 + 1]'h = .fn (.func 59) [] [.rptr (fnA G)] := fun h => (List.getElem?_eq_some_iff.1 h2).2
  clear h1 h2
  simp (disch := first | omega | (simp only [List.length_take, List.length_drop, List.length_append, List.length_cons, List.length_nil, List.length_map]; omega)) [IntWalk.i64_in, IntWalk.i64_quo, c14]
  refine (of_some r.kind (by omega) _).mono ?_
  rintro _ _ ⟨rfl, rfl⟩
  simp (disch := first | omega | (simp only [List.length_take, List.length_drop, List.length_append, List.length_cons, List.length_nil, List.length_map]; omega)) [IntWalk.i64_in, IntWalk.i64_quo, ho1, ho2, hol1, hol2]
  refine (such61 (r := r) (f := S) (by simp [rB]) (hCS _) (hS (by simp [rB]))).mono ?_
  rintro _ _ ⟨rfl, rfl⟩
  rw [← hm]
  cases hs : suchR r with
  | false =>
    simp (disch := first | omega | (simp only [List.length_take, List.length_drop, List.length_append, List.length_cons, List.length_nil, List.length_map]; omega)) [IntWalk.i64_in, IntWalk.i64_quo]
    rw [may_such, hs]; simp
  | true =>
    simp (disch := first | omega | (simp only [List.length_take, List.length_drop, List.length_append, List.length_cons, List.length_nil, List.length_map]; omega)) [IntWalk.i64_in, IntWalk.i64_quo]
    refine region_state [] [33] [0, 1, 2, 3, 4, 5, 6, 7, 8] (by decide +kernel) ?_
    simp (disch := first | omega | (simp only [List.length_take, List.length_drop, List.length_append, List.length_cons, List.length_nil, List.length_map]; omega)) [IntWalk.i64_in, IntWalk.i64_quo, ho1, ho2, hol1, hol2]
    refine (body_spec (r := r) hk' hs (by simp) (by simp [rB])).mono ?_
    rintro _ _ ⟨rfl, rfl⟩
    refine ⟨fun _ => ⟨List.prefix_refl _, List.prefix_refl _⟩, ?_⟩
    simp (disch := first | omega | (simp only [List.length_take, List.length_drop, List.length_append, List.length_cons, List.length_nil, List.length_map]; omega)) [IntWalk.i64_in, IntWalk.i64_quo]
    refine (got59 (k := r.kind) (s := (putR r, false)) (f := G) (hlen hs) hCG (hG (hlen hs)) (by omega) (by simp [gB]) (by simp [rBt, zRc])).mono ?_
    rintro _ _ ⟨rfl, rfl⟩
    have hT : ∀ t r, rBt t r = .cells false [.int .i8 r.kind, .int .i64 r.nm.stamp, .int .i64 r.nm.inc, .int .i64 r.nm.tr, .bool r.yes, .sl t (wrs r.ws), .int .i64 r.give, .int .i64 r.take, .int .i64 r.shards, .int .i64 r.stripe, .int .i64 r.to, .int .i64 r.n] := fun _ _ => rfl
    rw [hq, rd_put hk' hs]
    clear hq hG hS
    rw [may_such, hs]
    obtain ⟨x, hfx⟩ : ∃ x, fieldsR r = x := ⟨_, rfl⟩
    rw [hfx]
    rcases ht with rfl | rfl
    · simp (disch := first | omega | (simp only [List.length_take, List.length_drop, List.length_append, List.length_cons, List.length_nil, List.length_map]; omega)) [IntWalk.i64_in, IntWalk.i64_quo, hT]
      repeat' first
        | (refine region_static rfl (by decide +kernel) ?_; try simp (disch := first | omega | (simp only [List.length_take, List.length_drop, List.length_append, List.length_cons, List.length_nil, List.length_map]; omega)) [IntWalk.i64_in, IntWalk.i64_quo, hT])
        | (refine And.intro (by omega) ?_; try simp (disch := first | omega | (simp only [List.length_take, List.length_drop, List.length_append, List.length_cons, List.length_nil, List.length_map]; omega)) [IntWalk.i64_in, IntWalk.i64_quo, hT])
        | (refine guardK_ndec (fun h => ?_) (fun h => ?_) <;> (try simp (disch := first | omega | (simp only [List.length_take, List.length_drop, List.length_append, List.length_cons, List.length_nil, List.length_map]; omega)) [h, IntWalk.i64_in, IntWalk.i64_quo, hT]))
        | (refine guardK_dec (fun h => ?_) (fun h => ?_) <;> (try simp (disch := first | omega | (simp only [List.length_take, List.length_drop, List.length_append, List.length_cons, List.length_nil, List.length_map]; omega)) [h, IntWalk.i64_in, IntWalk.i64_quo, hT]))
        | (refine guardK_nbeq (fun h => ?_) (fun h => ?_) <;> (try simp (disch := first | omega | (simp only [List.length_take, List.length_drop, List.length_append, List.length_cons, List.length_nil, List.length_map]; omega)) [h, IntWalk.i64_in, IntWalk.i64_quo, hT]))
        | (refine guardK_beq (fun h => ?_) (fun h => ?_) <;> (try simp (disch := first | omega | (simp only [List.length_take, List.length_drop, List.length_append, List.length_cons, List.length_nil, List.length_map]; omega)) [h, IntWalk.i64_in, IntWalk.i64_quo, hT]))
        | (refine guardK_bne (fun h => ?_) (fun h => ?_) <;> (try simp (disch := first | omega | (simp only [List.length_take, List.length_drop, List.length_append, List.length_cons, List.length_nil, List.length_map]; omega)) [h, IntWalk.i64_in, IntWalk.i64_quo, hT]))
        | (refine guardK_not (fun h => ?_) (fun h => ?_) <;> (try simp (disch := first | omega | (simp only [List.length_take, List.length_drop, List.length_append, List.length_cons, List.length_nil, List.length_map]; omega)) [h, IntWalk.i64_in, IntWalk.i64_quo, hT]))
        | (refine guardK_split (fun h => ?_) (fun h => ?_) <;> (try simp (disch := first | omega | (simp only [List.length_take, List.length_drop, List.length_append, List.length_cons, List.length_nil, List.length_map]; omega)) [h, IntWalk.i64_in, IntWalk.i64_quo, hT]))
        | (refine condK_ndec (fun h => ?_) (fun h => ?_) <;> (try simp (disch := first | omega | (simp only [List.length_take, List.length_drop, List.length_append, List.length_cons, List.length_nil, List.length_map]; omega)) [h, IntWalk.i64_in, IntWalk.i64_quo, hT]))
        | (refine condK_dec (fun h => ?_) (fun h => ?_) <;> (try simp (disch := first | omega | (simp only [List.length_take, List.length_drop, List.length_append, List.length_cons, List.length_nil, List.length_map]; omega)) [h, IntWalk.i64_in, IntWalk.i64_quo, hT]))
        | (refine condK_nbeq (fun h => ?_) (fun h => ?_) <;> (try simp (disch := first | omega | (simp only [List.length_take, List.length_drop, List.length_append, List.length_cons, List.length_nil, List.length_map]; omega)) [h, IntWalk.i64_in, IntWalk.i64_quo, hT]))
        | (refine condK_beq (fun h => ?_) (fun h => ?_) <;> (try simp (disch := first | omega | (simp only [List.length_take, List.length_drop, List.length_append, List.length_cons, List.length_nil, List.length_map]; omega)) [h, IntWalk.i64_in, IntWalk.i64_quo, hT]))
        | (refine condK_bne (fun h => ?_) (fun h => ?_) <;> (try simp (disch := first | omega | (simp only [List.length_take, List.length_drop, List.length_append, List.length_cons, List.length_nil, List.length_map]; omega)) [h, IntWalk.i64_in, IntWalk.i64_quo, hT]))
        | (refine condK_not (fun h => ?_) (fun h => ?_) <;> (try simp (disch := first | omega | (simp only [List.length_take, List.length_drop, List.length_append, List.length_cons, List.length_nil, List.length_map]; omega)) [h, IntWalk.i64_in, IntWalk.i64_quo, hT]))
        | (refine condK_split (fun h => ?_) (fun h => ?_) <;> (try simp (disch := first | omega | (simp only [List.length_take, List.length_drop, List.length_append, List.length_cons, List.length_nil, List.length_map]; omega)) [h, IntWalk.i64_in, IntWalk.i64_quo, hT]))
      simp [hk']
    · simp (disch := first | omega | (simp only [List.length_take, List.length_drop, List.length_append, List.length_cons, List.length_nil, List.length_map]; omega)) [IntWalk.i64_in, IntWalk.i64_quo, hT]
      repeat' first
        | (refine region_static rfl (by decide +kernel) ?_; try simp (disch := first | omega | (simp only [List.length_take, List.length_drop, List.length_append, List.length_cons, List.length_nil, List.length_map]; omega)) [IntWalk.i64_in, IntWalk.i64_quo, hT])
        | (refine And.intro (by omega) ?_; try simp (disch := first | omega | (simp only [List.length_take, List.length_drop, List.length_append, List.length_cons, List.length_nil, List.length_map]; omega)) [IntWalk.i64_in, IntWalk.i64_quo, hT])
        | (refine guardK_ndec (fun h => ?_) (fun h => ?_) <;> (try simp (disch := first | omega | (simp only [List.length_take, List.length_drop, List.length_append, List.length_cons, List.length_nil, List.length_map]; omega)) [h, IntWalk.i64_in, IntWalk.i64_quo, hT]))
        | (refine guardK_dec (fun h => ?_) (fun h => ?_) <;> (try simp (disch := first | omega | (simp only [List.length_take, List.length_drop, List.length_append, List.length_cons, List.length_nil, List.length_map]; omega)) [h, IntWalk.i64_in, IntWalk.i64_quo, hT]))
        | (refine guardK_nbeq (fun h => ?_) (fun h => ?_) <;> (try simp (disch := first | omega | (simp only [List.length_take, List.length_drop, List.length_append, List.length_cons, List.length_nil, List.length_map]; omega)) [h, IntWalk.i64_in, IntWalk.i64_quo, hT]))
        | (refine guardK_beq (fun h => ?_) (fun h => ?_) <;> (try simp (disch := first | omega | (simp only [List.length_take, List.length_drop, List.length_append, List.length_cons, List.length_nil, List.length_map]; omega)) [h, IntWalk.i64_in, IntWalk.i64_quo, hT]))
        | (refine guardK_bne (fun h => ?_) (fun h => ?_) <;> (try simp (disch := first | omega | (simp only [List.length_take, List.length_drop, List.length_append, List.length_cons, List.length_nil, List.length_map]; omega)) [h, IntWalk.i64_in, IntWalk.i64_quo, hT]))
        | (refine guardK_not (fun h => ?_) (fun h => ?_) <;> (try simp (disch := first | omega | (simp only [List.length_take, List.length_drop, List.length_append, List.length_cons, List.length_nil, List.length_map]; omega)) [h, IntWalk.i64_in, IntWalk.i64_quo, hT]))
        | (refine guardK_split (fun h => ?_) (fun h => ?_) <;> (try simp (disch := first | omega | (simp only [List.length_take, List.length_drop, List.length_append, List.length_cons, List.length_nil, List.length_map]; omega)) [h, IntWalk.i64_in, IntWalk.i64_quo, hT]))
        | (refine condK_ndec (fun h => ?_) (fun h => ?_) <;> (try simp (disch := first | omega | (simp only [List.length_take, List.length_drop, List.length_append, List.length_cons, List.length_nil, List.length_map]; omega)) [h, IntWalk.i64_in, IntWalk.i64_quo, hT]))
        | (refine condK_dec (fun h => ?_) (fun h => ?_) <;> (try simp (disch := first | omega | (simp only [List.length_take, List.length_drop, List.length_append, List.length_cons, List.length_nil, List.length_map]; omega)) [h, IntWalk.i64_in, IntWalk.i64_quo, hT]))
        | (refine condK_nbeq (fun h => ?_) (fun h => ?_) <;> (try simp (disch := first | omega | (simp only [List.length_take, List.length_drop, List.length_append, List.length_cons, List.length_nil, List.length_map]; omega)) [h, IntWalk.i64_in, IntWalk.i64_quo, hT]))
        | (refine condK_beq (fun h => ?_) (fun h => ?_) <;> (try simp (disch := first | omega | (simp only [List.length_take, List.length_drop, List.length_append, List.length_cons, List.length_nil, List.length_map]; omega)) [h, IntWalk.i64_in, IntWalk.i64_quo, hT]))
        | (refine condK_bne (fun h => ?_) (fun h => ?_) <;> (try simp (disch := first | omega | (simp only [List.length_take, List.length_drop, List.length_append, List.length_cons, List.length_nil, List.length_map]; omega)) [h, IntWalk.i64_in, IntWalk.i64_quo, hT]))
        | (refine condK_not (fun h => ?_) (fun h => ?_) <;> (try simp (disch := first | omega | (simp only [List.length_take, List.length_drop, List.length_append, List.length_cons, List.length_nil, List.length_map]; omega)) [h, IntWalk.i64_in, IntWalk.i64_quo, hT]))
        | (refine condK_split (fun h => ?_) (fun h => ?_) <;> (try simp (disch := first | omega | (simp only [List.length_take, List.length_drop, List.length_append, List.length_cons, List.length_nil, List.length_map]; omega)) [h, IntWalk.i64_in, IntWalk.i64_quo, hT]))
      simp [hk']
theorem may_no {r : Rc} (hk : ¬ (1 ≤ r.kind ∧ r.kind ≤ 7)) (hb : -128 ≤ r.kind ∧ r.kind ≤ 127) (st : St) : ASpec Try.prog 14 [.agg (rcC r)] st fun v st' => v = .bool (mayR r) ∧ st' = st := by
  refine pure_of (R := fun v => v = _) C4s F14 rfl ?_
  simp (disch := first | omega | (simp only [List.length_take, List.length_drop, List.length_append, List.length_cons, List.length_nil, List.length_map]; omega)) [IntWalk.i64_in, IntWalk.i64_quo, c14]
  refine (of_none r.kind hk hb _).mono ?_
  rintro _ _ ⟨rfl, rfl⟩
  simp (disch := first | omega | (simp only [List.length_take, List.length_drop, List.length_append, List.length_cons, List.length_nil, List.length_map]; omega)) [IntWalk.i64_in, IntWalk.i64_quo]
  rw [may_such]; simp [hk]
theorem put_len {r : Rc} (h : suchR r = true) : (putR r).length ≤ 1000 := by
  unfold suchR at h
  by_cases h67 : r.kind = 6 ∨ r.kind = 7
  · rcases h67 with h67 | h67 <;> simp [putR, h67, le3]
  · rw [if_neg (by omega), if_neg (by omega)] at h
    simp only [Bool.and_eq_true] at h
    have h1 := h.2
    have hn : (nmB r.nm).length = 9 := rfl
    rw [putR, if_neg h67, List.length_append, hn]
    unfold tailR
    split
    · rename_i hk
      simp [hk] at h1
      have := written_len h1
      rw [wsB, List.length_cons, wb_len]
      omega
    · split
      · rename_i hk
        simp [hk] at h1
        have := written_len h1.1
        rw [List.length_append, wsB, List.length_cons, wb_len]
        simp only [List.length_cons, List.length_nil]
        omega
      · split
        · simp
        · split <;> simp
theorem may_spec (r : Rc) (hb : -128 ≤ r.kind ∧ r.kind ≤ 127) (hl : r.ws.length ≤ 1048576) (st : St) : ASpec Try.prog 14 [.agg (rcC r)] st fun v st' => v = .bool (mayR r) ∧ st' = st := by
  by_cases hk : 1 ≤ r.kind ∧ r.kind ≤ 7
  · have hlen : suchR r = true → (putR r).length ≤ 1000000 := fun h => by have := put_len h; omega
    have hn : ∀ n, (rdNm (putR r, false)).2.1.length ≤ n ∨ ¬ (rdNm (putR r, false)).2.1.length ≤ n := fun n => Nat.decLe _ _ |>.em
    have ln : (rdNm (putR r, false)).2.1.length ≤ (putR r).length := Nat.le_trans (rd3_len _) (Nat.le_trans (rd3_len _) (rd3_len _))
    obtain h | h | h | h | h | h | h : r.kind = 1 ∨ r.kind = 2 ∨ r.kind = 3 ∨ r.kind = 4 ∨ r.kind = 5 ∨ r.kind = 6 ∨ r.kind = 7 := by omega
    · exact may_nm (by omega) (by rw [h]; rfl) (by rw [h]; rfl) (by intro a; simp) (by intro a; simp) (fun hr => such66 hl hr) (fun hp => got64 (by omega)) (by simp [rdBody, h, nRc, zRc]) (.inl rfl) (by unfold suchR; simp [h]) hlen hl st
    · exact may_nm (by omega) (by rw [h]; rfl) (by rw [h]; rfl) (by intro a; simp) (by intro a; simp) (fun hr => such71 hl hr) (fun hp => got69 (by omega)) (by simp [rdBody, h, nRc, zRc]) (.inl rfl) (by unfold suchR; simp [h]) hlen hl st
    · exact may_nm (by omega) (by rw [h]; rfl) (by rw [h]; rfl) (by intro a; simp) (by intro a; simp) (fun hr => yes_spec _) (fun hp => got74 (by omega)) (by simp [rdBody, h, nRc, zRc]) (.inr rfl) (by unfold suchR; simp [h]) hlen hl st
    · exact may_nm (by omega) (by rw [h]; rfl) (by rw [h]; rfl) (by intro a; simp) (by intro a; simp) (fun hr => such78 hr) (fun hp => got77 (by omega)) (by simp [rdBody, h, nRc, zRc]) (.inr rfl) (by unfold suchR; simp [h]) hlen hl st
    · exact may_nm (by omega) (by rw [h]; rfl) (by rw [h]; rfl) (by intro a; simp) (by intro a; simp) (fun hr => yes_spec _) (fun hp => got80) (by simp [rdBody, h, nRc, zRc]) (.inr rfl) (by unfold suchR; simp [h]) hlen hl st
    · exact may_num (.inl h) 1048577 (by rw [h]; rfl) (by rw [h]; rfl) (by unfold suchR; simp [h]) hl st
    · exact may_num (.inr h) 1048576 (by rw [h]; rfl) (by rw [h]; rfl) (by unfold suchR; simp [h]) hl st
  · exact may_no hk hb st
noncomputable def C5 : Orc := C4.add 14 (tab (fun x : Int × Int × Int × Int × Bool × List Wr × Int × Int × Int × Int × Int × Int => [.agg [.int .i8 x.1, .int .i64 x.2.1, .int .i64 x.2.2.1, .int .i64 x.2.2.2.1, .bool x.2.2.2.2.1, .sl .any (wrs x.2.2.2.2.2.1), .int .i64 x.2.2.2.2.2.2.1, .int .i64 x.2.2.2.2.2.2.2.1, .int .i64 x.2.2.2.2.2.2.2.2.1, .int .i64 x.2.2.2.2.2.2.2.2.2.1, .int .i64 x.2.2.2.2.2.2.2.2.2.2.1, .int .i64 x.2.2.2.2.2.2.2.2.2.2.2]]) (fun x => .bool (mayR ⟨x.1, ⟨x.2.1, x.2.2.1, x.2.2.2.1⟩, x.2.2.2.2.1, x.2.2.2.2.2.1, x.2.2.2.2.2.2.1, x.2.2.2.2.2.2.2.1, x.2.2.2.2.2.2.2.2.1, x.2.2.2.2.2.2.2.2.2.1, x.2.2.2.2.2.2.2.2.2.2.1, x.2.2.2.2.2.2.2.2.2.2.2⟩)) fun x => (-128 ≤ x.1 ∧ x.1 ≤ 127) ∧ x.2.2.2.2.2.1.length ≤ 1048576)
theorem C5s : OSound Try.prog C5 := C4s.tab fun x h st => may_spec ⟨x.1, ⟨x.2.1, x.2.2.1, x.2.2.2.1⟩, x.2.2.2.2.1, x.2.2.2.2.2.1, x.2.2.2.2.2.2.1, x.2.2.2.2.2.2.2.1, x.2.2.2.2.2.2.2.2.1, x.2.2.2.2.2.2.2.2.2.1, x.2.2.2.2.2.2.2.2.2.2.1, x.2.2.2.2.2.2.2.2.2.2.2⟩ h.1 h.2 st
@[simp] theorem C5_14 (a : Int) (b : Int) (c : Int) (d : Int) (e : Bool) (f : List Wr) (g : Int) (h' : Int) (i : Int) (j : Int) (k : Int) (l : Int) (h : (-128 ≤ a ∧ a ≤ 127) ∧ f.length ≤ 1048576) : C5 14 [.agg [.int .i8 a, .int .i64 b, .int .i64 c, .int .i64 d, .bool e, .sl .any (wrs f), .int .i64 g, .int .i64 h', .int .i64 i, .int .i64 j, .int .i64 k, .int .i64 l]] = some (.bool (mayR ⟨a, ⟨b, c, d⟩, e, f, g, h', i, j, k, l⟩)) := by
  rw [C5, Orc.add_same]
  exact tab_eq (fun x y h => by simp at h; simp [h]) (x := (a, b, c, d, e, f, g, h', i, j, k, l)) h
@[simp] theorem C5_o (f : Nat) (args : List AV) (h : f ≠ 14) : C5 f args = C4 f args := by
  rw [C5, Orc.add_other _ _ _ _ _ h]
end Go.Proofs.Ytchaakjbedkndaa

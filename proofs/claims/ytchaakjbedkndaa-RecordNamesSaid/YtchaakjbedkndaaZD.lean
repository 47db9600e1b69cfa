/- Records: what the reference reads. -/
import Derived.Test.YtchaakjbedkndaaZC
set_option linter.all false
namespace Go.Proofs.Ytchaakjbedkndaa
open Go.Am

def zNm : Nm := ⟨0, 0, 0⟩
def zRc (k : Int) : Rc := ⟨k, ⟨0, 0, 0⟩, false, [], 0, 0, 0, 0, 0, 0⟩
/-- What is read behind a kind. -/
def rdBody (k : Int) (s : RS) : Rc × RS :=
  if k = 6 ∨ k = 7 then (⟨k, ⟨0, 0, 0⟩, false, [], 0, 0, 0, 0, 0, (rd3 s).1⟩, (rd3 s).2)
  else
    let n := (rdNm s).1
    let t := (rdNm s).2
    if k = 1 then (⟨k, n, false, (rdWr t).1, 0, 0, 0, 0, 0, 0⟩, (rdWr t).2)
    else if k = 2 then (⟨k, n, false, (rdWr t).1, (rd1 (rdWr t).2).1, (rd1 (rd1 (rdWr t).2).2).1, 0, 0, 0, 0⟩, (rd1 (rd1 (rdWr t).2).2).2)
    else if k = 3 then (⟨k, n, (rdF t).1, [], 0, 0, 0, 0, 0, 0⟩, (rdF t).2)
    else if k = 4 then (⟨k, n, false, [], 0, 0, (rd1 t).1, (rd1 (rd1 t).2).1 - 1, (rd1 (rd1 (rd1 t).2).2).1, 0⟩, (rd1 (rd1 (rd1 t).2).2).2)
    else (⟨k, n, false, [], 0, 0, 0, 0, 0, 0⟩, t)
def readR (b : List UInt8) : Rc × Int :=
  match b with
  | [] => (zRc 0, 40)
  | x :: t => if 127 < x.toNat then (zRc 0, 40) else
    if (rdBody x.toNat (t, false)).2.2 = false ∧ (rdBody x.toNat (t, false)).2.1 = [] ∧ mayR (rdBody x.toNat (t, false)).1 = true then ((rdBody x.toNat (t, false)).1, 0) else (zRc 0, 40)
theorem rdWs_len (n : Nat) (s : RS) : (rdWs n s).1.length ≤ n := by
  induction n generalizing s with
  | zero => simp [rdWs]
  | succ n ih =>
    rw [rdWs]
    split
    · simp
    · have := ih (rdW1 s).2
      simp only [List.length_cons]
      omega
theorem rdWr_len (s : RS) : (rdWr s).1.length ≤ 255 := by
  have := rdWs_len (rd1 s).1.toNat (rd1 s).2
  have := rd1_bound s
  unfold rdWr
  omega
theorem andI_127 (x : Nat) (h : x < 256) : andI (x : Int) 127 = ((x % 128 : Nat) : Int) := by
  have h1 := and_low x 7 127 (by decide) (by omega) (by decide)
  have h2 : some (AV.int .i64 (andI (x : Int) 127)) = some (AV.int .i64 ((x % 2 ^ 7 : Nat) : Int)) := h1
  simpa using h2
theorem rdWs_suf {b : List UInt8} : ∀ (n : Nat) {s : RS}, s.1 <:+ b → (rdWs n s).2.1 <:+ b
  | 0, _, h => h
  | n + 1, s, h => by
    rw [rdWs]
    split
    · exact h
    · exact rdWs_suf n (rdW1_suf h)
theorem rdWr_suf {b : List UInt8} {s : RS} (h : s.1 <:+ b) : (rdWr s).2.1 <:+ b := rdWs_suf _ (rd1_suf h)
@[simp] theorem B7_19n (a b c d : Int) (e : Bool) (g h' i j k l : Int) : B7 19 [.agg [.int .i8 a, .int .i64 b, .int .i64 c, .int .i64 d, .bool e, .sl .any [], .int .i64 g, .int .i64 h', .int .i64 i, .int .i64 j, .int .i64 k, .int .i64 l]] = some (.bool (mayR ⟨a, ⟨b, c, d⟩, e, [], g, h', i, j, k, l⟩)) := B7_19 a b c d e [] g h' i j k l (by simp)
theorem rread_spec (b : List UInt8) (hb : b.length ≤ 1000000) (st : St) : ASpec Try.prog 10 [.sl .any (ofBytes b)] st fun v st' => v = .tup [.agg (rcC (readR b).1), .int .i64 (readR b).2] ∧ st' = st := by
  refine pure_of (R := fun v => v = _) B9s F10 rfl ?_
  simp (disch := first | omega | (simp only [List.length_take, List.length_drop, List.length_append, List.length_cons, List.length_nil, List.length_map]; omega)) [IntWalk.i64_in, IntWalk.i64_quo, c10]
  refine (rbyte_spec (s := (b, false)) (List.suffix_refl b) hb (by simp [refB])).mono ?_
  rintro _ _ ⟨rfl, rfl⟩
  cases b with
  | nil =>
    have ha : andI 0 127 = 0 := andI_127 0 (by decide)
    have hw : IntKind.i8.wrap 0 = 0 := by decide
    simp (disch := first | omega | (simp only [List.length_take, List.length_drop, List.length_append, List.length_cons, List.length_nil, List.length_map]; omega)) [IntWalk.i64_in, IntWalk.i64_quo, rd1, ha, hw]
    refine (rname_spec (s := ([], true)) (List.suffix_refl _) hb (by simp)).mono ?_
    rintro _ _ ⟨rfl, rfl⟩
    have hN : rdNm ([], true) = (⟨0, 0, 0⟩, ([], true)) := rfl
    simp (disch := first | omega | (simp only [List.length_take, List.length_drop, List.length_append, List.length_cons, List.length_nil, List.length_map]; omega)) [IntWalk.i64_in, IntWalk.i64_quo, hN, refB]
    repeat' first
      | (refine region_static rfl (by decide +kernel) ?_; try simp (disch := first | omega | (simp only [List.length_take, List.length_drop, List.length_append, List.length_cons, List.length_nil, List.length_map]; omega)) [IntWalk.i64_in, IntWalk.i64_quo, hN, refB])
      | (refine And.intro (by omega) ?_; try simp (disch := first | omega | (simp only [List.length_take, List.length_drop, List.length_append, List.length_cons, List.length_nil, List.length_map]; omega)) [IntWalk.i64_in, IntWalk.i64_quo, hN, refB])
      | (refine guardK_ndec (fun h => ?_) (fun h => ?_) <;> (try simp (disch := first | omega | (simp only [List.length_take, List.length_drop, List.length_append, List.length_cons, List.length_nil, List.length_map]; omega)) [h, IntWalk.i64_in, IntWalk.i64_quo, hN, refB]))
      | (refine guardK_dec (fun h => ?_) (fun h => ?_) <;> (try simp (disch := first | omega | (simp only [List.length_take, List.length_drop, List.length_append, List.length_cons, List.length_nil, List.length_map]; omega)) [h, IntWalk.i64_in, IntWalk.i64_quo, hN, refB]))
      | (refine guardK_nbeq (fun h => ?_) (fun h => ?_) <;> (try simp (disch := first | omega | (simp only [List.length_take, List.length_drop, List.length_append, List.length_cons, List.length_nil, List.length_map]; omega)) [h, IntWalk.i64_in, IntWalk.i64_quo, hN, refB]))
      | (refine guardK_beq (fun h => ?_) (fun h => ?_) <;> (try simp (disch := first | omega | (simp only [List.length_take, List.length_drop, List.length_append, List.length_cons, List.length_nil, List.length_map]; omega)) [h, IntWalk.i64_in, IntWalk.i64_quo, hN, refB]))
      | (refine guardK_bne (fun h => ?_) (fun h => ?_) <;> (try simp (disch := first | omega | (simp only [List.length_take, List.length_drop, List.length_append, List.length_cons, List.length_nil, List.length_map]; omega)) [h, IntWalk.i64_in, IntWalk.i64_quo, hN, refB]))
      | (refine guardK_not (fun h => ?_) (fun h => ?_) <;> (try simp (disch := first | omega | (simp only [List.length_take, List.length_drop, List.length_append, List.length_cons, List.length_nil, List.length_map]; omega)) [h, IntWalk.i64_in, IntWalk.i64_quo, hN, refB]))
      | (refine guardK_split (fun h => ?_) (fun h => ?_) <;> (try simp (disch := first | omega | (simp only [List.length_take, List.length_drop, List.length_append, List.length_cons, List.length_nil, List.length_map]; omega)) [h, IntWalk.i64_in, IntWalk.i64_quo, hN, refB]))
      | (refine condK_ndec (fun h => ?_) (fun h => ?_) <;> (try simp (disch := first | omega | (simp only [List.length_take, List.length_drop, List.length_append, List.length_cons, List.length_nil, List.length_map]; omega)) [h, IntWalk.i64_in, IntWalk.i64_quo, hN, refB]))
      | (refine condK_dec (fun h => ?_) (fun h => ?_) <;> (try simp (disch := first | omega | (simp only [List.length_take, List.length_drop, List.length_append, List.length_cons, List.length_nil, List.length_map]; omega)) [h, IntWalk.i64_in, IntWalk.i64_quo, hN, refB]))
      | (refine condK_nbeq (fun h => ?_) (fun h => ?_) <;> (try simp (disch := first | omega | (simp only [List.length_take, List.length_drop, List.length_append, List.length_cons, List.length_nil, List.length_map]; omega)) [h, IntWalk.i64_in, IntWalk.i64_quo, hN, refB]))
      | (refine condK_beq (fun h => ?_) (fun h => ?_) <;> (try simp (disch := first | omega | (simp only [List.length_take, List.length_drop, List.length_append, List.length_cons, List.length_nil, List.length_map]; omega)) [h, IntWalk.i64_in, IntWalk.i64_quo, hN, refB]))
      | (refine condK_bne (fun h => ?_) (fun h => ?_) <;> (try simp (disch := first | omega | (simp only [List.length_take, List.length_drop, List.length_append, List.length_cons, List.length_nil, List.length_map]; omega)) [h, IntWalk.i64_in, IntWalk.i64_quo, hN, refB]))
      | (refine condK_not (fun h => ?_) (fun h => ?_) <;> (try simp (disch := first | omega | (simp only [List.length_take, List.length_drop, List.length_append, List.length_cons, List.length_nil, List.length_map]; omega)) [h, IntWalk.i64_in, IntWalk.i64_quo, hN, refB]))
      | (refine condK_split (fun h => ?_) (fun h => ?_) <;> (try simp (disch := first | omega | (simp only [List.length_take, List.length_drop, List.length_append, List.length_cons, List.length_nil, List.length_map]; omega)) [h, IntWalk.i64_in, IntWalk.i64_quo, hN, refB]))
    simp [readR, zRc]
  | cons x t =>
    have hx := x.toNat_lt
    by_cases h127 : 127 < x.toNat
    · have h127' : (127 : Int) < x.toNat := by omega
      have hlt : x.toNat % 128 < 128 := Nat.mod_lt _ (by decide)
      simp (disch := first | omega | (simp only [List.length_take, List.length_drop, List.length_append, List.length_cons, List.length_nil, List.length_map]; omega)) [IntWalk.i64_in, IntWalk.i64_quo, rd1, andI_127 _ hx, h127']
      repeat' first
        | (refine region_static rfl (by decide +kernel) ?_; try simp (disch := first | omega | (simp only [List.length_take, List.length_drop, List.length_append, List.length_cons, List.length_nil, List.length_map]; omega)) [IntWalk.i64_in, IntWalk.i64_quo, h127'])
        | (refine And.intro (by omega) ?_; try simp (disch := first | omega | (simp only [List.length_take, List.length_drop, List.length_append, List.length_cons, List.length_nil, List.length_map]; omega)) [IntWalk.i64_in, IntWalk.i64_quo, h127'])
        | (refine guardK_ndec (fun h => ?_) (fun h => ?_) <;> (try simp (disch := first | omega | (simp only [List.length_take, List.length_drop, List.length_append, List.length_cons, List.length_nil, List.length_map]; omega)) [h, IntWalk.i64_in, IntWalk.i64_quo, h127']))
        | (refine guardK_dec (fun h => ?_) (fun h => ?_) <;> (try simp (disch := first | omega | (simp only [List.length_take, List.length_drop, List.length_append, List.length_cons, List.length_nil, List.length_map]; omega)) [h, IntWalk.i64_in, IntWalk.i64_quo, h127']))
        | (refine guardK_nbeq (fun h => ?_) (fun h => ?_) <;> (try simp (disch := first | omega | (simp only [List.length_take, List.length_drop, List.length_append, List.length_cons, List.length_nil, List.length_map]; omega)) [h, IntWalk.i64_in, IntWalk.i64_quo, h127']))
        | (refine guardK_beq (fun h => ?_) (fun h => ?_) <;> (try simp (disch := first | omega | (simp only [List.length_take, List.length_drop, List.length_append, List.length_cons, List.length_nil, List.length_map]; omega)) [h, IntWalk.i64_in, IntWalk.i64_quo, h127']))
        | (refine guardK_bne (fun h => ?_) (fun h => ?_) <;> (try simp (disch := first | omega | (simp only [List.length_take, List.length_drop, List.length_append, List.length_cons, List.length_nil, List.length_map]; omega)) [h, IntWalk.i64_in, IntWalk.i64_quo, h127']))
        | (refine guardK_not (fun h => ?_) (fun h => ?_) <;> (try simp (disch := first | omega | (simp only [List.length_take, List.length_drop, List.length_append, List.length_cons, List.length_nil, List.length_map]; omega)) [h, IntWalk.i64_in, IntWalk.i64_quo, h127']))
        | (refine guardK_split (fun h => ?_) (fun h => ?_) <;> (try simp (disch := first | omega | (simp only [List.length_take, List.length_drop, List.length_append, List.length_cons, List.length_nil, List.length_map]; omega)) [h, IntWalk.i64_in, IntWalk.i64_quo, h127']))
        | (refine condK_ndec (fun h => ?_) (fun h => ?_) <;> (try simp (disch := first | omega | (simp only [List.length_take, List.length_drop, List.length_append, List.length_cons, List.length_nil, List.length_map]; omega)) [h, IntWalk.i64_in, IntWalk.i64_quo, h127']))
        | (refine condK_dec (fun h => ?_) (fun h => ?_) <;> (try simp (disch := first | omega | (simp only [List.length_take, List.length_drop, List.length_append, List.length_cons, List.length_nil, List.length_map]; omega)) [h, IntWalk.i64_in, IntWalk.i64_quo, h127']))
        | (refine condK_nbeq (fun h => ?_) (fun h => ?_) <;> (try simp (disch := first | omega | (simp only [List.length_take, List.length_drop, List.length_append, List.length_cons, List.length_nil, List.length_map]; omega)) [h, IntWalk.i64_in, IntWalk.i64_quo, h127']))
        | (refine condK_beq (fun h => ?_) (fun h => ?_) <;> (try simp (disch := first | omega | (simp only [List.length_take, List.length_drop, List.length_append, List.length_cons, List.length_nil, List.length_map]; omega)) [h, IntWalk.i64_in, IntWalk.i64_quo, h127']))
        | (refine condK_bne (fun h => ?_) (fun h => ?_) <;> (try simp (disch := first | omega | (simp only [List.length_take, List.length_drop, List.length_append, List.length_cons, List.length_nil, List.length_map]; omega)) [h, IntWalk.i64_in, IntWalk.i64_quo, h127']))
        | (refine condK_not (fun h => ?_) (fun h => ?_) <;> (try simp (disch := first | omega | (simp only [List.length_take, List.length_drop, List.length_append, List.length_cons, List.length_nil, List.length_map]; omega)) [h, IntWalk.i64_in, IntWalk.i64_quo, h127']))
        | (refine condK_split (fun h => ?_) (fun h => ?_) <;> (try simp (disch := first | omega | (simp only [List.length_take, List.length_drop, List.length_append, List.length_cons, List.length_nil, List.length_map]; omega)) [h, IntWalk.i64_in, IntWalk.i64_quo, h127']))
      simp [readR, h127, zRc]
    · have h127' : ¬ (127 : Int) < x.toNat := by omega
      have ha : andI (x.toNat : Int) 127 = x.toNat := by rw [andI_127 _ hx, Nat.mod_eq_of_lt (by omega)]
      have hw : IntKind.i8.wrap (x.toNat : Int) = x.toNat := IntWalk.i8_in _ (by omega)
      have h127g : ¬ (x.toNat : Int) > 127 := by omega
      have hwl := rdWr_len (rdNm (t, false)).2
      by_cases h67 : (x.toNat : Int) = 6 ∨ (x.toNat : Int) = 7
      · obtain ⟨⟨n, rem, bad⟩, hn⟩ : ∃ q, rd3 (t, false) = q := ⟨_, rfl⟩
        rcases h67 with h6 | h6
        · have hRR : readR (x :: t) = if bad = false ∧ rem = [] ∧ mayR ⟨6, ⟨0, 0, 0⟩, false, [], 0, 0, 0, 0, 0, n⟩ = true then (⟨6, ⟨0, 0, 0⟩, false, [], 0, 0, 0, 0, 0, n⟩, 0) else (zRc 0, 40) := by
            simp [readR, h127, rdBody, h6, hn]
          simp (disch := first | omega | (simp only [List.length_take, List.length_drop, List.length_append, List.length_cons, List.length_nil, List.length_map]; omega)) [IntWalk.i64_in, IntWalk.i64_quo, rd1, ha, hw, h127', h127g]
          simp (disch := first | omega | (simp only [List.length_take, List.length_drop, List.length_append, List.length_cons, List.length_nil, List.length_map]; omega)) [IntWalk.i64_in, IntWalk.i64_quo, h6]
          refine (rthree_spec (b := x :: t) (s := (t, false)) (List.suffix_cons x t) hb (by simp)).mono ?_
          rintro _ _ ⟨rfl, rfl⟩
          rw [hn]
          clear hn h6 ha hw h127' h127g hwl
          cases bad with
          | true =>
            simp (disch := first | omega | (simp only [List.length_take, List.length_drop, List.length_append, List.length_cons, List.length_nil, List.length_map]; omega)) [IntWalk.i64_in, IntWalk.i64_quo, refB]
            simp [hRR, zRc]
          | false =>
            cases rem with
            | cons y r =>
              have hne : ¬ ((t.length - r.length : Nat) : Int) = t.length + 1 := by omega
              simp (disch := first | omega | (simp only [List.length_take, List.length_drop, List.length_append, List.length_cons, List.length_nil, List.length_map]; omega)) [IntWalk.i64_in, IntWalk.i64_quo, refB, hne]
              simp [hRR, zRc]
            | nil =>
              by_cases hm : mayR ⟨6, ⟨0, 0, 0⟩, false, [], 0, 0, 0, 0, 0, n⟩ = true
              · simp (disch := first | omega | (simp only [List.length_take, List.length_drop, List.length_append, List.length_cons, List.length_nil, List.length_map]; omega)) [IntWalk.i64_in, IntWalk.i64_quo, refB, hm]
                simp [hRR, hm]
              · simp (disch := first | omega | (simp only [List.length_take, List.length_drop, List.length_append, List.length_cons, List.length_nil, List.length_map]; omega)) [IntWalk.i64_in, IntWalk.i64_quo, refB, hm]
                simp [hRR, hm, zRc]
        · have hRR : readR (x :: t) = if bad = false ∧ rem = [] ∧ mayR ⟨7, ⟨0, 0, 0⟩, false, [], 0, 0, 0, 0, 0, n⟩ = true then (⟨7, ⟨0, 0, 0⟩, false, [], 0, 0, 0, 0, 0, n⟩, 0) else (zRc 0, 40) := by
            simp [readR, h127, rdBody, h6, hn]
          simp (disch := first | omega | (simp only [List.length_take, List.length_drop, List.length_append, List.length_cons, List.length_nil, List.length_map]; omega)) [IntWalk.i64_in, IntWalk.i64_quo, rd1, ha, hw, h127', h127g]
          simp (disch := first | omega | (simp only [List.length_take, List.length_drop, List.length_append, List.length_cons, List.length_nil, List.length_map]; omega)) [IntWalk.i64_in, IntWalk.i64_quo, h6]
          refine (rthree_spec (b := x :: t) (s := (t, false)) (List.suffix_cons x t) hb (by simp)).mono ?_
          rintro _ _ ⟨rfl, rfl⟩
          rw [hn]
          clear hn h6 ha hw h127' h127g hwl
          cases bad with
          | true =>
            simp (disch := first | omega | (simp only [List.length_take, List.length_drop, List.length_append, List.length_cons, List.length_nil, List.length_map]; omega)) [IntWalk.i64_in, IntWalk.i64_quo, refB]
            simp [hRR, zRc]
          | false =>
            cases rem with
            | cons y r =>
              have hne : ¬ ((t.length - r.length : Nat) : Int) = t.length + 1 := by omega
              simp (disch := first | omega | (simp only [List.length_take, List.length_drop, List.length_append, List.length_cons, List.length_nil, List.length_map]; omega)) [IntWalk.i64_in, IntWalk.i64_quo, refB, hne]
              simp [hRR, zRc]
            | nil =>
              by_cases hm : mayR ⟨7, ⟨0, 0, 0⟩, false, [], 0, 0, 0, 0, 0, n⟩ = true
              · simp (disch := first | omega | (simp only [List.length_take, List.length_drop, List.length_append, List.length_cons, List.length_nil, List.length_map]; omega)) [IntWalk.i64_in, IntWalk.i64_quo, refB, hm]
                simp [hRR, hm]
              · simp (disch := first | omega | (simp only [List.length_take, List.length_drop, List.length_append, List.length_cons, List.length_nil, List.length_map]; omega)) [IntWalk.i64_in, IntWalk.i64_quo, refB, hm]
                simp [hRR, hm, zRc]
      · have h6 : ¬ (x.toNat : Int) = 6 := fun h => h67 (.inl h)
        have h7 : ¬ (x.toNat : Int) = 7 := fun h => h67 (.inr h)
        obtain ⟨⟨⟨s1, s2, s3⟩, tn⟩, hnm⟩ : ∃ q, rdNm (t, false) = q := ⟨_, rfl⟩
        have hsn : tn.1 <:+ x :: t := by
          have := rdNm_suf (b := x :: t) (s := (t, false)) (List.suffix_cons x t)
          rwa [hnm] at this
        rw [hnm] at hwl
        by_cases k1 : (x.toNat : Int) = 1
        · obtain ⟨⟨ws, rem, bad⟩, hn⟩ : ∃ q, rdWr tn = q := ⟨_, rfl⟩
          rw [hn] at hwl
          have hwl' : ws.length ≤ 255 := hwl
          have hRR : readR (x :: t) = if bad = false ∧ rem = [] ∧ mayR ⟨1, ⟨s1, s2, s3⟩, false, ws, 0, 0, 0, 0, 0, 0⟩ = true then (⟨1, ⟨s1, s2, s3⟩, false, ws, 0, 0, 0, 0, 0, 0⟩, 0) else (zRc 0, 40) := by
            simp [readR, h127, rdBody, h67, k1, hnm, hn]
          simp (disch := first | omega | (simp only [List.length_take, List.length_drop, List.length_append, List.length_cons, List.length_nil, List.length_map]; omega)) [IntWalk.i64_in, IntWalk.i64_quo, rd1, ha, hw, h127', h127g]
          simp (disch := first | omega | (simp only [List.length_take, List.length_drop, List.length_append, List.length_cons, List.length_nil, List.length_map]; omega)) [IntWalk.i64_in, IntWalk.i64_quo, h6, h7]
          refine (rname_spec (b := x :: t) (s := (t, false)) (List.suffix_cons x t) hb (by simp)).mono ?_
          rintro _ _ ⟨rfl, rfl⟩
          rw [hnm]
          simp (disch := first | omega | (simp only [List.length_take, List.length_drop, List.length_append, List.length_cons, List.length_nil, List.length_map]; omega)) [IntWalk.i64_in, IntWalk.i64_quo, h6, h7]
          simp (disch := first | omega | (simp only [List.length_take, List.length_drop, List.length_append, List.length_cons, List.length_nil, List.length_map]; omega)) [IntWalk.i64_in, IntWalk.i64_quo, k1]
          refine (rwrites_spec (b := x :: t) (s := tn) hsn hb (by simp)).mono ?_
          rintro _ _ ⟨rfl, rfl⟩
          rw [hn]
          clear hn hnm h6 h7 k1 ha hw h127' h127g hsn hwl
          cases bad with
          | true =>
            simp (disch := first | omega | (simp only [List.length_take, List.length_drop, List.length_append, List.length_cons, List.length_nil, List.length_map]; omega)) [IntWalk.i64_in, IntWalk.i64_quo, refB]
            simp [hRR, zRc]
          | false =>
            cases rem with
            | cons y r =>
              have hne : ¬ ((t.length - r.length : Nat) : Int) = t.length + 1 := by omega
              simp (disch := first | omega | (simp only [List.length_take, List.length_drop, List.length_append, List.length_cons, List.length_nil, List.length_map]; omega)) [IntWalk.i64_in, IntWalk.i64_quo, refB, hne]
              simp [hRR, zRc]
            | nil =>
              by_cases hm : mayR ⟨1, ⟨s1, s2, s3⟩, false, ws, 0, 0, 0, 0, 0, 0⟩ = true
              · simp (disch := first | omega | (simp only [List.length_take, List.length_drop, List.length_append, List.length_cons, List.length_nil, List.length_map]; omega)) [IntWalk.i64_in, IntWalk.i64_quo, refB, hm]
                simp [hRR, hm]
              · simp (disch := first | omega | (simp only [List.length_take, List.length_drop, List.length_append, List.length_cons, List.length_nil, List.length_map]; omega)) [IntWalk.i64_in, IntWalk.i64_quo, refB, hm]
                simp [hRR, hm, zRc]
        by_cases k2 : (x.toNat : Int) = 2
        · obtain ⟨⟨ws, t1⟩, hn⟩ : ∃ q, rdWr tn = q := ⟨_, rfl⟩
          obtain ⟨⟨gv, t2⟩, hn2⟩ : ∃ q, rd1 t1 = q := ⟨_, rfl⟩
          obtain ⟨⟨tv, rem, bad⟩, hn3⟩ : ∃ q, rd1 t2 = q := ⟨_, rfl⟩
          rw [hn] at hwl
          have hwl' : ws.length ≤ 255 := hwl
          have q1 : t1.1 <:+ x :: t := by
            have := rdWr_suf (b := x :: t) (s := tn) hsn
            rwa [hn] at this
          have q2 : t2.1 <:+ x :: t := by
            have := rd1_suf (b := x :: t) (s := t1) q1
            rwa [hn2] at this
          have hRR : readR (x :: t) = if bad = false ∧ rem = [] ∧ mayR ⟨2, ⟨s1, s2, s3⟩, false, ws, gv, tv, 0, 0, 0, 0⟩ = true then (⟨2, ⟨s1, s2, s3⟩, false, ws, gv, tv, 0, 0, 0, 0⟩, 0) else (zRc 0, 40) := by
            simp [readR, h127, rdBody, h67, k1, k2, hnm, hn, hn2, hn3]
          simp (disch := first | omega | (simp only [List.length_take, List.length_drop, List.length_append, List.length_cons, List.length_nil, List.length_map]; omega)) [IntWalk.i64_in, IntWalk.i64_quo, rd1, ha, hw, h127', h127g]
          simp (disch := first | omega | (simp only [List.length_take, List.length_drop, List.length_append, List.length_cons, List.length_nil, List.length_map]; omega)) [IntWalk.i64_in, IntWalk.i64_quo, h6, h7]
          refine (rname_spec (b := x :: t) (s := (t, false)) (List.suffix_cons x t) hb (by simp)).mono ?_
          rintro _ _ ⟨rfl, rfl⟩
          rw [hnm]
          simp (disch := first | omega | (simp only [List.length_take, List.length_drop, List.length_append, List.length_cons, List.length_nil, List.length_map]; omega)) [IntWalk.i64_in, IntWalk.i64_quo, h6, h7]
          simp (disch := first | omega | (simp only [List.length_take, List.length_drop, List.length_append, List.length_cons, List.length_nil, List.length_map]; omega)) [IntWalk.i64_in, IntWalk.i64_quo, k1, k2]
          refine (rwrites_spec (b := x :: t) (s := tn) hsn hb (by simp)).mono ?_
          rintro _ _ ⟨rfl, rfl⟩
          rw [hn]
          simp (disch := first | omega | (simp only [List.length_take, List.length_drop, List.length_append, List.length_cons, List.length_nil, List.length_map]; omega)) [IntWalk.i64_in, IntWalk.i64_quo, k1, k2]
          refine (rbyte_spec (b := x :: t) (s := t1) q1 hb (by simp)).mono ?_
          rintro _ _ ⟨rfl, rfl⟩
          rw [hn2]
          simp (disch := first | omega | (simp only [List.length_take, List.length_drop, List.length_append, List.length_cons, List.length_nil, List.length_map]; omega)) [IntWalk.i64_in, IntWalk.i64_quo]
          refine (rbyte_spec (b := x :: t) (s := t2) q2 hb (by simp)).mono ?_
          rintro _ _ ⟨rfl, rfl⟩
          rw [hn3]
          clear hn hn2 hn3 hnm h6 h7 k1 k2 ha hw h127' h127g hsn hwl q1 q2
          cases bad with
          | true =>
            simp (disch := first | omega | (simp only [List.length_take, List.length_drop, List.length_append, List.length_cons, List.length_nil, List.length_map]; omega)) [IntWalk.i64_in, IntWalk.i64_quo, refB]
            simp [hRR, zRc]
          | false =>
            cases rem with
            | cons y r =>
              have hne : ¬ ((t.length - r.length : Nat) : Int) = t.length + 1 := by omega
              simp (disch := first | omega | (simp only [List.length_take, List.length_drop, List.length_append, List.length_cons, List.length_nil, List.length_map]; omega)) [IntWalk.i64_in, IntWalk.i64_quo, refB, hne]
              simp [hRR, zRc]
            | nil =>
              by_cases hm : mayR ⟨2, ⟨s1, s2, s3⟩, false, ws, gv, tv, 0, 0, 0, 0⟩ = true
              · simp (disch := first | omega | (simp only [List.length_take, List.length_drop, List.length_append, List.length_cons, List.length_nil, List.length_map]; omega)) [IntWalk.i64_in, IntWalk.i64_quo, refB, hm]
                simp [hRR, hm]
              · simp (disch := first | omega | (simp only [List.length_take, List.length_drop, List.length_append, List.length_cons, List.length_nil, List.length_map]; omega)) [IntWalk.i64_in, IntWalk.i64_quo, refB, hm]
                simp [hRR, hm, zRc]
        by_cases k3 : (x.toNat : Int) = 3
        · obtain ⟨⟨yv, rem, bad⟩, hn⟩ : ∃ q, rdF tn = q := ⟨_, rfl⟩
          have hRR : readR (x :: t) = if bad = false ∧ rem = [] ∧ mayR ⟨3, ⟨s1, s2, s3⟩, yv, [], 0, 0, 0, 0, 0, 0⟩ = true then (⟨3, ⟨s1, s2, s3⟩, yv, [], 0, 0, 0, 0, 0, 0⟩, 0) else (zRc 0, 40) := by
            simp [readR, h127, rdBody, h67, k1, k2, k3, hnm, hn]
          simp (disch := first | omega | (simp only [List.length_take, List.length_drop, List.length_append, List.length_cons, List.length_nil, List.length_map]; omega)) [IntWalk.i64_in, IntWalk.i64_quo, rd1, ha, hw, h127', h127g]
          simp (disch := first | omega | (simp only [List.length_take, List.length_drop, List.length_append, List.length_cons, List.length_nil, List.length_map]; omega)) [IntWalk.i64_in, IntWalk.i64_quo, h6, h7]
          refine (rname_spec (b := x :: t) (s := (t, false)) (List.suffix_cons x t) hb (by simp)).mono ?_
          rintro _ _ ⟨rfl, rfl⟩
          rw [hnm]
          simp (disch := first | omega | (simp only [List.length_take, List.length_drop, List.length_append, List.length_cons, List.length_nil, List.length_map]; omega)) [IntWalk.i64_in, IntWalk.i64_quo, h6, h7]
          simp (disch := first | omega | (simp only [List.length_take, List.length_drop, List.length_append, List.length_cons, List.length_nil, List.length_map]; omega)) [IntWalk.i64_in, IntWalk.i64_quo, k1, k2, k3]
          refine (rflag_spec (b := x :: t) (s := tn) hsn hb (by simp)).mono ?_
          rintro _ _ ⟨rfl, rfl⟩
          rw [hn]
          clear hn hnm h6 h7 k1 k2 k3 ha hw h127' h127g hsn hwl
          cases bad with
          | true =>
            simp (disch := first | omega | (simp only [List.length_take, List.length_drop, List.length_append, List.length_cons, List.length_nil, List.length_map]; omega)) [IntWalk.i64_in, IntWalk.i64_quo, refB]
            simp [hRR, zRc]
          | false =>
            cases rem with
            | cons y r =>
              have hne : ¬ ((t.length - r.length : Nat) : Int) = t.length + 1 := by omega
              simp (disch := first | omega | (simp only [List.length_take, List.length_drop, List.length_append, List.length_cons, List.length_nil, List.length_map]; omega)) [IntWalk.i64_in, IntWalk.i64_quo, refB, hne]
              simp [hRR, zRc]
            | nil =>
              by_cases hm : mayR ⟨3, ⟨s1, s2, s3⟩, yv, [], 0, 0, 0, 0, 0, 0⟩ = true
              · simp (disch := first | omega | (simp only [List.length_take, List.length_drop, List.length_append, List.length_cons, List.length_nil, List.length_map]; omega)) [IntWalk.i64_in, IntWalk.i64_quo, refB, hm]
                simp [hRR, hm]
              · simp (disch := first | omega | (simp only [List.length_take, List.length_drop, List.length_append, List.length_cons, List.length_nil, List.length_map]; omega)) [IntWalk.i64_in, IntWalk.i64_quo, refB, hm]
                simp [hRR, hm, zRc]
        by_cases k4 : (x.toNat : Int) = 4
        · obtain ⟨⟨av, t1⟩, hn⟩ : ∃ q, rd1 tn = q := ⟨_, rfl⟩
          obtain ⟨⟨bv, t2⟩, hn2⟩ : ∃ q, rd1 t1 = q := ⟨_, rfl⟩
          obtain ⟨⟨cv, rem, bad⟩, hn3⟩ : ∃ q, rd1 t2 = q := ⟨_, rfl⟩
          have q1 : t1.1 <:+ x :: t := by
            have := rd1_suf (b := x :: t) (s := tn) hsn
            rwa [hn] at this
          have q2 : t2.1 <:+ x :: t := by
            have := rd1_suf (b := x :: t) (s := t1) q1
            rwa [hn2] at this
          have hbv : 0 ≤ bv ∧ bv ≤ 255 := by
            have := rd1_bound t1
            rwa [hn2] at this
          have hRR : readR (x :: t) = if bad = false ∧ rem = [] ∧ mayR ⟨4, ⟨s1, s2, s3⟩, false, [], 0, 0, av, bv - 1, cv, 0⟩ = true then (⟨4, ⟨s1, s2, s3⟩, false, [], 0, 0, av, bv - 1, cv, 0⟩, 0) else (zRc 0, 40) := by
            simp [readR, h127, rdBody, h67, k1, k2, k3, k4, hnm, hn, hn2, hn3]
          simp (disch := first | omega | (simp only [List.length_take, List.length_drop, List.length_append, List.length_cons, List.length_nil, List.length_map]; omega)) [IntWalk.i64_in, IntWalk.i64_quo, rd1, ha, hw, h127', h127g]
          simp (disch := first | omega | (simp only [List.length_take, List.length_drop, List.length_append, List.length_cons, List.length_nil, List.length_map]; omega)) [IntWalk.i64_in, IntWalk.i64_quo, h6, h7]
          refine (rname_spec (b := x :: t) (s := (t, false)) (List.suffix_cons x t) hb (by simp)).mono ?_
          rintro _ _ ⟨rfl, rfl⟩
          rw [hnm]
          simp (disch := first | omega | (simp only [List.length_take, List.length_drop, List.length_append, List.length_cons, List.length_nil, List.length_map]; omega)) [IntWalk.i64_in, IntWalk.i64_quo, h6, h7]
          simp (disch := first | omega | (simp only [List.length_take, List.length_drop, List.length_append, List.length_cons, List.length_nil, List.length_map]; omega)) [IntWalk.i64_in, IntWalk.i64_quo, k1, k2, k3, k4]
          refine (rbyte_spec (b := x :: t) (s := tn) hsn hb (by simp)).mono ?_
          rintro _ _ ⟨rfl, rfl⟩
          rw [hn]
          simp (disch := first | omega | (simp only [List.length_take, List.length_drop, List.length_append, List.length_cons, List.length_nil, List.length_map]; omega)) [IntWalk.i64_in, IntWalk.i64_quo, k1, k2, k3, k4]
          refine (rbyte_spec (b := x :: t) (s := t1) q1 hb (by simp)).mono ?_
          rintro _ _ ⟨rfl, rfl⟩
          rw [hn2]
          simp (disch := first | omega | (simp only [List.length_take, List.length_drop, List.length_append, List.length_cons, List.length_nil, List.length_map]; omega)) [IntWalk.i64_in, IntWalk.i64_quo]
          refine (rbyte_spec (b := x :: t) (s := t2) q2 hb (by simp)).mono ?_
          rintro _ _ ⟨rfl, rfl⟩
          rw [hn3]
          clear hn hn2 hn3 hnm h6 h7 k1 k2 k3 k4 ha hw h127' h127g hsn hwl q1 q2
          cases bad with
          | true =>
            simp (disch := first | omega | (simp only [List.length_take, List.length_drop, List.length_append, List.length_cons, List.length_nil, List.length_map]; omega)) [IntWalk.i64_in, IntWalk.i64_quo, refB]
            simp [hRR, zRc]
          | false =>
            cases rem with
            | cons y r =>
              have hne : ¬ ((t.length - r.length : Nat) : Int) = t.length + 1 := by omega
              simp (disch := first | omega | (simp only [List.length_take, List.length_drop, List.length_append, List.length_cons, List.length_nil, List.length_map]; omega)) [IntWalk.i64_in, IntWalk.i64_quo, refB, hne]
              simp [hRR, zRc]
            | nil =>
              by_cases hm : mayR ⟨4, ⟨s1, s2, s3⟩, false, [], 0, 0, av, bv - 1, cv, 0⟩ = true
              · simp (disch := first | omega | (simp only [List.length_take, List.length_drop, List.length_append, List.length_cons, List.length_nil, List.length_map]; omega)) [IntWalk.i64_in, IntWalk.i64_quo, refB, hm]
                simp [hRR, hm]
              · simp (disch := first | omega | (simp only [List.length_take, List.length_drop, List.length_append, List.length_cons, List.length_nil, List.length_map]; omega)) [IntWalk.i64_in, IntWalk.i64_quo, refB, hm]
                simp [hRR, hm, zRc]
        obtain ⟨rem, bad⟩ := tn
        have hRR : readR (x :: t) = if bad = false ∧ rem = [] ∧ mayR ⟨x.toNat, ⟨s1, s2, s3⟩, false, [], 0, 0, 0, 0, 0, 0⟩ = true then (⟨x.toNat, ⟨s1, s2, s3⟩, false, [], 0, 0, 0, 0, 0, 0⟩, 0) else (zRc 0, 40) := by
          simp [readR, h127, rdBody, h67, k1, k2, k3, k4, hnm]
        simp (disch := first | omega | (simp only [List.length_take, List.length_drop, List.length_append, List.length_cons, List.length_nil, List.length_map]; omega)) [IntWalk.i64_in, IntWalk.i64_quo, rd1, ha, hw, h127', h127g]
        simp (disch := first | omega | (simp only [List.length_take, List.length_drop, List.length_append, List.length_cons, List.length_nil, List.length_map]; omega)) [IntWalk.i64_in, IntWalk.i64_quo, h6, h7]
        refine (rname_spec (b := x :: t) (s := (t, false)) (List.suffix_cons x t) hb (by simp)).mono ?_
        rintro _ _ ⟨rfl, rfl⟩
        rw [hnm]
        simp (disch := first | omega | (simp only [List.length_take, List.length_drop, List.length_append, List.length_cons, List.length_nil, List.length_map]; omega)) [IntWalk.i64_in, IntWalk.i64_quo, h6, h7]
        simp (disch := first | omega | (simp only [List.length_take, List.length_drop, List.length_append, List.length_cons, List.length_nil, List.length_map]; omega)) [IntWalk.i64_in, IntWalk.i64_quo, k1, k2, k3, k4]
        clear hnm h6 h7 k1 k2 k3 k4 ha hw h127' h127g hsn hwl h67
        cases bad with
        | true =>
          simp (disch := first | omega | (simp only [List.length_take, List.length_drop, List.length_append, List.length_cons, List.length_nil, List.length_map]; omega)) [IntWalk.i64_in, IntWalk.i64_quo, refB]
          simp [hRR, zRc]
        | false =>
          cases rem with
          | cons y r =>
            have hne : ¬ ((t.length - r.length : Nat) : Int) = t.length + 1 := by omega
            simp (disch := first | omega | (simp only [List.length_take, List.length_drop, List.length_append, List.length_cons, List.length_nil, List.length_map]; omega)) [IntWalk.i64_in, IntWalk.i64_quo, refB, hne]
            simp [hRR, zRc]
          | nil =>
            by_cases hm : mayR ⟨x.toNat, ⟨s1, s2, s3⟩, false, [], 0, 0, 0, 0, 0, 0⟩ = true
            · simp (disch := first | omega | (simp only [List.length_take, List.length_drop, List.length_append, List.length_cons, List.length_nil, List.length_map]; omega)) [IntWalk.i64_in, IntWalk.i64_quo, refB, hm]
              simp [hRR, hm]
            · simp (disch := first | omega | (simp only [List.length_take, List.length_drop, List.length_append, List.length_cons, List.length_nil, List.length_map]; omega)) [IntWalk.i64_in, IntWalk.i64_quo, refB, hm]
              simp [hRR, hm, zRc]
end Go.Proofs.Ytchaakjbedkndaa

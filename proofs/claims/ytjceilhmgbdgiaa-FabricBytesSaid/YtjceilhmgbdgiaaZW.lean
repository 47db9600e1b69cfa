/- Messages: what the reference reads, on. -/
import Derived.Test.YtjceilhmgbdgiaaZV
set_option linter.all false
namespace Go.Proofs.Ytjceilhmgbdgiaa
open Go.Am

set_option maxRecDepth 20000 in
theorem rr_2 {b : List UInt8} {x : UInt8} {t : List UInt8} (hk : (x.toNat : Int) = 2) (h127 : ¬ 127 < x.toNat) (hll : (x :: t).length ≤ 1000000) (hO : openA b = .tup [.sl .any (ofBytes (x :: t)), .bool true]) (hb : b.length ≤ 1000000) (st : St) : ASpec Try.prog 96 [.sl .any (ofBytes b)] st fun v st' => v = .tup [.agg (msC (readL (x :: t)).1), .int .i64 (readL (x :: t)).2] ∧ st' = st := by
  refine pure_of (R := fun v => v = _) T12s F96 rfl ?_
  have hx := x.toNat_lt
  have hz : (⟨0, 0, 0, 0, 0, 0, 0, 0⟩ : Vl) = zV := rfl
  have h2 : ¬ (t.length : Int) + 1 = 0 := by omega
  have h127' : ¬ (127 : Int) < x.toNat := by omega
  have hw : IntKind.i8.wrap (x.toNat : Int) = x.toNat := IntWalk.i8_in _ (by omega)
  have e0 : rd1 (x :: t, false) = ((x.toNat : Int), (t, false)) := rfl
  simp (disch := first | omega | (simp only [LL]; omega)) [WW, c96, hO, h2, h127']
  refine (rbyte_spec (b := x :: t) (s := (x :: t, false)) (List.suffix_refl _) hll (by simp [refB])).mono ?_
  rintro _ _ ⟨rfl, rfl⟩
  simp (disch := first | omega | (simp only [LL]; omega)) [WW, e0, hw]
  obtain ⟨⟨fr, s1⟩, e1⟩ : ∃ q, rd1 (t, false) = q := ⟨_, rfl⟩
  have su1 : s1.1 <:+ x :: t := by
    have := rd1_suf (b := x :: t) (s := (t, false)) (List.suffix_cons x t)
    rwa [e1] at this
  refine (rbyte_spec (b := x :: t) (s := (t, false)) (List.suffix_cons x t) hll (by simp)).mono ?_
  rintro _ _ ⟨rfl, rfl⟩
  rw [e1]
  simp (disch := first | omega | (simp only [LL]; omega)) [WW]
  obtain ⟨⟨to, s2⟩, e2⟩ : ∃ q, rd1 s1 = q := ⟨_, rfl⟩
  have su2 : s2.1 <:+ x :: t := by
    have := rd1_suf (b := x :: t) (s := s1) su1
    rwa [e2] at this
  refine (rbyte_spec (b := x :: t) (s := s1) su1 hll (by simp)).mono ?_
  rintro _ _ ⟨rfl, rfl⟩
  rw [e2]
  simp (disch := first | omega | (simp only [LL]; omega)) [WW]
  obtain ⟨⟨inc, s3⟩, e3⟩ : ∃ q, rd3 s2 = q := ⟨_, rfl⟩
  have su3 : s3.1 <:+ x :: t := by
    have := rd3_suf (b := x :: t) (s := s2) su2
    rwa [e3] at this
  refine (rthree_spec (b := x :: t) (s := s2) su2 hll (by simp)).mono ?_
  rintro _ _ ⟨rfl, rfl⟩
  rw [e3]
  simp (disch := first | omega | (simp only [LL]; omega)) [WW]
  obtain ⟨⟨yo, s4⟩, e4⟩ : ∃ q, rd3 s3 = q := ⟨_, rfl⟩
  have su4 : s4.1 <:+ x :: t := by
    have := rd3_suf (b := x :: t) (s := s3) su3
    rwa [e4] at this
  refine (rthree_spec (b := x :: t) (s := s3) su3 hll (by simp)).mono ?_
  rintro _ _ ⟨rfl, rfl⟩
  rw [e4]
  simp (disch := first | omega | (simp only [LL]; omega)) [WW]
  simp (disch := first | omega | (simp only [LL]; omega)) [WW, hk]
  obtain ⟨⟨⟨n1, n2, n3⟩, s5⟩, e5⟩ : ∃ q, rdNm s4 = q := ⟨_, rfl⟩
  have su5 : s5.1 <:+ x :: t := by
    have := rdNm_suf (b := x :: t) (s := s4) su4
    rwa [e5] at this
  refine (rname_spec (b := x :: t) (s := s4) su4 hll (by simp)).mono ?_
  rintro _ _ ⟨rfl, rfl⟩
  rw [e5]
  simp (disch := first | omega | (simp only [LL]; omega)) [WW]
  obtain ⟨⟨nv, s6⟩, e6⟩ : ∃ q, rd3 s5 = q := ⟨_, rfl⟩
  have su6 : s6.1 <:+ x :: t := by
    have := rd3_suf (b := x :: t) (s := s5) su5
    rwa [e6] at this
  refine (rthree_spec (b := x :: t) (s := s5) su5 hll (by simp)).mono ?_
  rintro _ _ ⟨rfl, rfl⟩
  rw [e6]
  simp (disch := first | omega | (simp only [LL]; omega)) [WW]
  obtain ⟨⟨ov, s7⟩, e7⟩ : ∃ q, rd1 s6 = q := ⟨_, rfl⟩
  have bo := rd1_bound s6
  have su7 : s7.1 <:+ x :: t := by
    have := rd1_suf (b := x :: t) (s := s6) su6
    rwa [e7] at this
  rw [e7] at bo
  simp only at bo
  refine (rbyte_spec (b := x :: t) (s := s6) su6 hll (by simp)).mono ?_
  rintro _ _ ⟨rfl, rfl⟩
  rw [e7]
  have ha : andI ov 127 = ov % 128 := by
    obtain ⟨n, rfl⟩ := Int.eq_ofNat_of_zero_le bo.1
    have h1 := and_low n 7 127 (by decide) (by omega) (by decide)
    have h2 : some (AV.int .i64 (andI (n : Int) 127)) = some (AV.int .i64 ((n % 2 ^ 7 : Nat) : Int)) := h1
    simp only [Option.some.injEq, AV.int.injEq, true_and] at h2
    rw [h2]
    omega
  have hw8 : IntKind.i8.wrap (ov % 128) = ov % 128 := IntWalk.i8_in _ (by omega)
  have hRf : ∀ s, refB (x :: t) s = .cells false [.sl .any (ofBytes (x :: t)), .int .i64 (((x :: t).length - s.1.length : Nat) : Int), .bool s.2] := fun _ => rfl
  obtain ⟨rem7, bad7⟩ := s7
  cases bad7
  · simp (disch := first | omega | (simp only [LL]; omega)) [WW, ha, hw8, hRf]
    obtain ⟨⟨bl, s9⟩, e9⟩ : ∃ q, rd1 (rem7, decide (127 < ov)) = q := ⟨_, rfl⟩
    have su9 : s9.1 <:+ x :: t := by
      have := rd1_suf (b := x :: t) (s := (rem7, decide (127 < ov))) su7
      rwa [e9] at this
    refine (rbyte_spec (b := x :: t) (s := (rem7, decide (127 < ov))) su7 hll (by simp [refB])).mono ?_
    rintro _ _ ⟨rfl, rfl⟩
    rw [e9]
    simp (disch := first | omega | (simp only [LL]; omega)) [WW]
    obtain ⟨v0, h0⟩ : ∃ v, rdB 0 s9 = v := ⟨_, rfl⟩
    obtain ⟨v1, h1⟩ : ∃ v, rdB 1 s9 = v := ⟨_, rfl⟩
    obtain ⟨v2, h2v⟩ : ∃ v, rdB 2 s9 = v := ⟨_, rfl⟩
    obtain ⟨v3, h3⟩ : ∃ v, rdB 3 s9 = v := ⟨_, rfl⟩
    obtain ⟨v4, h4⟩ : ∃ v, rdB 4 s9 = v := ⟨_, rfl⟩
    obtain ⟨v5, h5⟩ : ∃ v, rdB 5 s9 = v := ⟨_, rfl⟩
    obtain ⟨v6, h6⟩ : ∃ v, rdB 6 s9 = v := ⟨_, rfl⟩
    obtain ⟨v7, h7⟩ : ∃ v, rdB 7 s9 = v := ⟨_, rfl⟩
    obtain ⟨s10, e10⟩ : ∃ q, rdn 8 s9 = q := ⟨_, rfl⟩
    have su10 : s10.1 <:+ x :: t := by
      have := rdn_suf (b := x :: t) (s := s9) su9 8
      rwa [e10] at this
    refine (rvalue_spec (b := x :: t) (s := s9) su9 hll (by simp)).mono ?_
    rintro _ _ ⟨rfl, rfl⟩
    rw [e10, h0, h1, h2v, h3, h4, h5, h6, h7]
    simp (disch := first | omega | (simp only [LL]; omega)) [WW]
    obtain ⟨X, hX⟩ : ∃ X : Ms, X = ⟨2, fr, to, inc, yo, ⟨n1, n2, n3⟩, nv, ov % 128, bl, ⟨v0, v1, v2, v3, v4, v5, v6, v7⟩, 0, false, 0, 0, []⟩ := ⟨_, rfl⟩
    obtain ⟨rem, bad⟩ := s10
    have hM : rdM (x :: t, false) = (X, (rem, bad)) := by
      rw [hX]
      simp [rdM, rdH, rdN, rdT, e0, e1, e2, e3, e4, e5, e6, e7, e9, e10, rdO, h0, h1, h2v, h3, h4, h5, h6, h7, rdV, hk, hz]
    have hRR : readL (x :: t) = if bad = false ∧ rem = [] ∧ mayM X = true then (X, 0) else (zM, 40) := by rw [readL, if_neg h127, hM]
    have hXl : X.ws.length ≤ 1048576 := by
      rw [hX]
      simp
    clear hM
    cases bad with
    | true =>
      simp (disch := first | omega | (simp only [LL]; omega)) [WW, refB]
      simp [hRR, zM, zV, u8]
    | false =>
      cases rem with
      | cons q r =>
        have hne : ¬ ((t.length - r.length : Nat) : Int) = t.length + 1 := by omega
        simp (disch := first | omega | (simp only [LL]; omega)) [WW, refB, hne]
        simp [hRR, zM, zV, u8]
      | nil =>
        cases hm : mayM X
        · have hm' := hm
          rw [hX] at hm'
          simp (disch := first | omega | (simp only [LL]; omega)) [WW, refB, hm', hk, hz, hXl]
          simp [hRR, hm, zM, zV, u8]
        · have hm' := hm
          rw [hX] at hm'
          simp (disch := first | omega | (simp only [LL]; omega)) [WW, refB, hm', hk, hz, hXl]
          have hR2 : readL (x :: t) = (X, 0) := by rw [hRR, if_pos ⟨rfl, rfl, hm⟩]
          simp [hR2, hX, zV, u8]
  · simp (disch := first | omega | (simp only [LL]; omega)) [WW, ha, hw8, hRf]
    obtain ⟨⟨bl, s9⟩, e9⟩ : ∃ q, rd1 (rem7, true) = q := ⟨_, rfl⟩
    have su9 : s9.1 <:+ x :: t := by
      have := rd1_suf (b := x :: t) (s := (rem7, true)) su7
      rwa [e9] at this
    refine (rbyte_spec (b := x :: t) (s := (rem7, true)) su7 hll (by simp [refB])).mono ?_
    rintro _ _ ⟨rfl, rfl⟩
    rw [e9]
    simp (disch := first | omega | (simp only [LL]; omega)) [WW]
    obtain ⟨v0, h0⟩ : ∃ v, rdB 0 s9 = v := ⟨_, rfl⟩
    obtain ⟨v1, h1⟩ : ∃ v, rdB 1 s9 = v := ⟨_, rfl⟩
    obtain ⟨v2, h2v⟩ : ∃ v, rdB 2 s9 = v := ⟨_, rfl⟩
    obtain ⟨v3, h3⟩ : ∃ v, rdB 3 s9 = v := ⟨_, rfl⟩
    obtain ⟨v4, h4⟩ : ∃ v, rdB 4 s9 = v := ⟨_, rfl⟩
    obtain ⟨v5, h5⟩ : ∃ v, rdB 5 s9 = v := ⟨_, rfl⟩
    obtain ⟨v6, h6⟩ : ∃ v, rdB 6 s9 = v := ⟨_, rfl⟩
    obtain ⟨v7, h7⟩ : ∃ v, rdB 7 s9 = v := ⟨_, rfl⟩
    obtain ⟨s10, e10⟩ : ∃ q, rdn 8 s9 = q := ⟨_, rfl⟩
    have su10 : s10.1 <:+ x :: t := by
      have := rdn_suf (b := x :: t) (s := s9) su9 8
      rwa [e10] at this
    refine (rvalue_spec (b := x :: t) (s := s9) su9 hll (by simp)).mono ?_
    rintro _ _ ⟨rfl, rfl⟩
    rw [e10, h0, h1, h2v, h3, h4, h5, h6, h7]
    simp (disch := first | omega | (simp only [LL]; omega)) [WW]
    obtain ⟨X, hX⟩ : ∃ X : Ms, X = ⟨2, fr, to, inc, yo, ⟨n1, n2, n3⟩, nv, ov % 128, bl, ⟨v0, v1, v2, v3, v4, v5, v6, v7⟩, 0, false, 0, 0, []⟩ := ⟨_, rfl⟩
    obtain ⟨rem, bad⟩ := s10
    have hM : rdM (x :: t, false) = (X, (rem, bad)) := by
      rw [hX]
      simp [rdM, rdH, rdN, rdT, e0, e1, e2, e3, e4, e5, e6, e7, e9, e10, rdO, h0, h1, h2v, h3, h4, h5, h6, h7, rdV, hk, hz]
    have hRR : readL (x :: t) = if bad = false ∧ rem = [] ∧ mayM X = true then (X, 0) else (zM, 40) := by rw [readL, if_neg h127, hM]
    have hXl : X.ws.length ≤ 1048576 := by
      rw [hX]
      simp
    clear hM
    cases bad with
    | true =>
      simp (disch := first | omega | (simp only [LL]; omega)) [WW, refB]
      simp [hRR, zM, zV, u8]
    | false =>
      cases rem with
      | cons q r =>
        have hne : ¬ ((t.length - r.length : Nat) : Int) = t.length + 1 := by omega
        simp (disch := first | omega | (simp only [LL]; omega)) [WW, refB, hne]
        simp [hRR, zM, zV, u8]
      | nil =>
        cases hm : mayM X
        · have hm' := hm
          rw [hX] at hm'
          simp (disch := first | omega | (simp only [LL]; omega)) [WW, refB, hm', hk, hz, hXl]
          simp [hRR, hm, zM, zV, u8]
        · have hm' := hm
          rw [hX] at hm'
          simp (disch := first | omega | (simp only [LL]; omega)) [WW, refB, hm', hk, hz, hXl]
          have hR2 : readL (x :: t) = (X, 0) := by rw [hRR, if_pos ⟨rfl, rfl, hm⟩]
          simp [hR2, hX, zV, u8]
set_option maxRecDepth 20000 in
theorem rr_no {b : List UInt8} {x : UInt8} {t : List UInt8} (g1 : ¬ (x.toNat : Int) = 1) (g2 : ¬ (x.toNat : Int) = 2) (g3 : ¬ (x.toNat : Int) = 3) (g4 : ¬ (x.toNat : Int) = 4) (g5 : ¬ (x.toNat : Int) = 5) (g6 : ¬ (x.toNat : Int) = 6) (g10 : ¬ (x.toNat : Int) = 10) (g11 : ¬ (x.toNat : Int) = 11) (h127 : ¬ 127 < x.toNat) (hll : (x :: t).length ≤ 1000000) (hO : openA b = .tup [.sl .any (ofBytes (x :: t)), .bool true]) (hb : b.length ≤ 1000000) (st : St) : ASpec Try.prog 96 [.sl .any (ofBytes b)] st fun v st' => v = .tup [.agg (msC (readL (x :: t)).1), .int .i64 (readL (x :: t)).2] ∧ st' = st := by
  refine pure_of (R := fun v => v = _) T12s F96 rfl ?_
  have hx := x.toNat_lt
  have hz : (⟨0, 0, 0, 0, 0, 0, 0, 0⟩ : Vl) = zV := rfl
  have h2 : ¬ (t.length : Int) + 1 = 0 := by omega
  have h127' : ¬ (127 : Int) < x.toNat := by omega
  have hw : IntKind.i8.wrap (x.toNat : Int) = x.toNat := IntWalk.i8_in _ (by omega)
  have e0 : rd1 (x :: t, false) = ((x.toNat : Int), (t, false)) := rfl
  simp (disch := first | omega | (simp only [LL]; omega)) [WW, c96, hO, h2, h127']
  refine (rbyte_spec (b := x :: t) (s := (x :: t, false)) (List.suffix_refl _) hll (by simp [refB])).mono ?_
  rintro _ _ ⟨rfl, rfl⟩
  simp (disch := first | omega | (simp only [LL]; omega)) [WW, e0, hw]
  obtain ⟨⟨fr, s1⟩, e1⟩ : ∃ q, rd1 (t, false) = q := ⟨_, rfl⟩
  have su1 : s1.1 <:+ x :: t := by
    have := rd1_suf (b := x :: t) (s := (t, false)) (List.suffix_cons x t)
    rwa [e1] at this
  refine (rbyte_spec (b := x :: t) (s := (t, false)) (List.suffix_cons x t) hll (by simp)).mono ?_
  rintro _ _ ⟨rfl, rfl⟩
  rw [e1]
  simp (disch := first | omega | (simp only [LL]; omega)) [WW]
  obtain ⟨⟨to, s2⟩, e2⟩ : ∃ q, rd1 s1 = q := ⟨_, rfl⟩
  have su2 : s2.1 <:+ x :: t := by
    have := rd1_suf (b := x :: t) (s := s1) su1
    rwa [e2] at this
  refine (rbyte_spec (b := x :: t) (s := s1) su1 hll (by simp)).mono ?_
  rintro _ _ ⟨rfl, rfl⟩
  rw [e2]
  simp (disch := first | omega | (simp only [LL]; omega)) [WW]
  obtain ⟨⟨inc, s3⟩, e3⟩ : ∃ q, rd3 s2 = q := ⟨_, rfl⟩
  have su3 : s3.1 <:+ x :: t := by
    have := rd3_suf (b := x :: t) (s := s2) su2
    rwa [e3] at this
  refine (rthree_spec (b := x :: t) (s := s2) su2 hll (by simp)).mono ?_
  rintro _ _ ⟨rfl, rfl⟩
  rw [e3]
  simp (disch := first | omega | (simp only [LL]; omega)) [WW]
  obtain ⟨⟨yo, s4⟩, e4⟩ : ∃ q, rd3 s3 = q := ⟨_, rfl⟩
  have su4 : s4.1 <:+ x :: t := by
    have := rd3_suf (b := x :: t) (s := s3) su3
    rwa [e4] at this
  refine (rthree_spec (b := x :: t) (s := s3) su3 hll (by simp)).mono ?_
  rintro _ _ ⟨rfl, rfl⟩
  rw [e4]
  simp (disch := first | omega | (simp only [LL]; omega)) [WW]
  simp (disch := first | omega | (simp only [LL]; omega)) [WW, g1, g2, g3, g4, g5, g6, g10, g11]
  obtain ⟨⟨⟨n1, n2, n3⟩, s5⟩, e5⟩ : ∃ q, rdNm s4 = q := ⟨_, rfl⟩
  have su5 : s5.1 <:+ x :: t := by
    have := rdNm_suf (b := x :: t) (s := s4) su4
    rwa [e5] at this
  refine (rname_spec (b := x :: t) (s := s4) su4 hll (by simp)).mono ?_
  rintro _ _ ⟨rfl, rfl⟩
  rw [e5]
  simp (disch := first | omega | (simp only [LL]; omega)) [WW, g1, g2, g3, g4, g5, g6, g10, g11]
  obtain ⟨X, hX⟩ : ∃ X : Ms, X = ⟨x.toNat, fr, to, inc, yo, ⟨n1, n2, n3⟩, 0, 0, 0, zV, 0, false, 0, 0, []⟩ := ⟨_, rfl⟩
  obtain ⟨rem, bad⟩ := s5
  have hM : rdM (x :: t, false) = (X, (rem, bad)) := by
    rw [hX]
    simp [rdM, rdH, rdN, rdT, e0, e1, e2, e3, e4, e5, g1, g2, g3, g4, g5, g6, g10, g11, hz]
  have hRR : readL (x :: t) = if bad = false ∧ rem = [] ∧ mayM X = true then (X, 0) else (zM, 40) := by rw [readL, if_neg h127, hM]
  have hXl : X.ws.length ≤ 1048576 := by
    rw [hX]
    simp
  clear hM
  cases bad with
  | true =>
    simp (disch := first | omega | (simp only [LL]; omega)) [WW, refB]
    simp [hRR, zM, zV, u8]
  | false =>
    cases rem with
    | cons q r =>
      have hne : ¬ ((t.length - r.length : Nat) : Int) = t.length + 1 := by omega
      simp (disch := first | omega | (simp only [LL]; omega)) [WW, refB, hne]
      simp [hRR, zM, zV, u8]
    | nil =>
      cases hm : mayM X
      · have hm' := hm
        rw [hX] at hm'
        simp (disch := first | omega | (simp only [LL]; omega)) [WW, refB, hm', g1, g2, g3, g4, g5, g6, g10, g11, hz, hXl]
        simp [hRR, hm, zM, zV, u8]
      · have hm' := hm
        rw [hX] at hm'
        simp (disch := first | omega | (simp only [LL]; omega)) [WW, refB, hm', g1, g2, g3, g4, g5, g6, g10, g11, hz, hXl]
        have hR2 : readL (x :: t) = (X, 0) := by rw [hRR, if_pos ⟨rfl, rfl, hm⟩]
        simp [hR2, hX, zV, u8]
theorem rread_spec (b : List UInt8) (hb : b.length ≤ 1000000) (st : St) : ASpec Try.prog 96 [.sl .any (ofBytes b)] st fun v st' => v = .tup [.agg (msC (readM b).1), .int .i64 (readM b).2] ∧ st' = st := by
  by_cases hc : 4 ≤ b.length ∧ crcB (crc (b.take (b.length - 4))) = b.drop (b.length - 4)
  case neg =>
    refine pure_of (R := fun v => v = _) T12s F96 rfl ?_
    have hO : openA b = .tup [.sl .any [], .bool false] := by rw [openA, if_neg hc]
    simp (disch := first | omega | (simp only [LL]; omega)) [WW, c96, hO]
    simp [readM, hc, zM, zV, u8]
  have hO : openA b = .tup [.sl .any (ofBytes (b.take (b.length - 4))), .bool true] := by rw [openA, if_pos hc]
  obtain ⟨l, hl⟩ : ∃ l, b.take (b.length - 4) = l := ⟨_, rfl⟩
  have hll : l.length ≤ 1000000 := by rw [← hl]; simp; omega
  have hRR : readM b = readL l := by rw [readM, if_pos hc, hl]
  rw [hl] at hO
  rw [hRR]
  clear hl hc hRR
  cases l with
  | nil =>
    refine pure_of (R := fun v => v = _) T12s F96 rfl ?_
    simp (disch := first | omega | (simp only [LL]; omega)) [WW, c96, hO]
    simp [readL, zM, zV, u8]
  | cons x t =>
    have hx := x.toNat_lt
    have h2 : ¬ (t.length : Int) + 1 = 0 := by omega
    by_cases h127 : 127 < x.toNat
    · refine pure_of (R := fun v => v = _) T12s F96 rfl ?_
      have h127' : (127 : Int) < x.toNat := by omega
      simp (disch := first | omega | (simp only [LL]; omega)) [WW, c96, hO, h2, h127']
      simp [readL, h127, zM, zV, u8]
    by_cases k1 : (x.toNat : Int) = 1
    · exact rr_1 k1 h127 hll hO hb st
    by_cases k2 : (x.toNat : Int) = 2
    · exact rr_2 k2 h127 hll hO hb st
    by_cases k3 : (x.toNat : Int) = 3
    · exact rr_3 k3 h127 hll hO hb st
    by_cases k4 : (x.toNat : Int) = 4
    · exact rr_4 k4 h127 hll hO hb st
    by_cases k5 : (x.toNat : Int) = 5
    · exact rr_5 k5 h127 hll hO hb st
    by_cases k6 : (x.toNat : Int) = 6
    · exact rr_6 k6 h127 hll hO hb st
    by_cases k7 : (x.toNat : Int) = 7
    · exact rr_7 k7 h127 hll hO hb st
    by_cases k8 : (x.toNat : Int) = 8
    · exact rr_8 k8 h127 hll hO hb st
    by_cases k9 : (x.toNat : Int) = 9
    · exact rr_9 k9 h127 hll hO hb st
    by_cases k10 : (x.toNat : Int) = 10
    · exact rr_10 k10 h127 hll hO hb st
    by_cases k11 : (x.toNat : Int) = 11
    · exact rr_11 k11 h127 hll hO hb st
    exact rr_no k1 k2 k3 k4 k5 k6 k10 k11 h127 hll hO hb st
end Go.Proofs.Ytjceilhmgbdgiaa

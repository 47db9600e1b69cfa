/- Messages: what the reference reads. -/
import Derived.Test.YtjceilhmgbdgiaaZU
set_option linter.all false
namespace Go.Proofs.Ytjceilhmgbdgiaa
open Go.Am

def rdV (s : RS) : Vl × RS := (⟨rdB 0 s, rdB 1 s, rdB 2 s, rdB 3 s, rdB 4 s, rdB 5 s, rdB 6 s, rdB 7 s⟩, rdn 8 s)
def rdO (s : RS) : Int × RS := ((rd1 s).1 % 128, ((rd1 s).2.1, (rd1 s).2.2 || decide (127 < (rd1 s).1)))
def rdE (s : RS) : Int × RS := ((rd1 s).1 + (rd1 (rd1 s).2).1 * 256, (rd1 (rd1 s).2).2)
def rdT (x : Ms) (s : RS) : Ms × RS :=
  if x.kind = 2 then ({ x with n := (rd3 s).1, op := (rdO (rd3 s).2).1, block := (rd1 (rdO (rd3 s).2).2).1, val := (rdV (rd1 (rdO (rd3 s).2).2).2).1 }, (rdV (rd1 (rdO (rd3 s).2).2).2).2)
  else if x.kind = 3 then ({ x with n := (rd3 s).1, val := (rdV (rd3 s).2).1, e := (rdE (rdV (rd3 s).2).2).1 }, (rdE (rdV (rd3 s).2).2).2)
  else if x.kind = 4 then ({ x with give := (rd1 s).1, take := (rd1 (rd1 s).2).1, ws := (rdWr (rd1 (rd1 s).2).2).1 }, (rdWr (rd1 (rd1 s).2).2).2)
  else if x.kind = 5 ∨ x.kind = 6 then ({ x with yes := (rdF s).1 }, (rdF s).2)
  else if x.kind = 10 then ({ x with e := (rdE s).1 }, (rdE s).2)
  else (x, s)
def rdH (s : RS) : Ms × RS :=
  (⟨(rd1 s).1, (rd1 (rd1 s).2).1, (rd1 (rd1 (rd1 s).2).2).1, (rd3 (rd1 (rd1 (rd1 s).2).2).2).1, (rd3 (rd3 (rd1 (rd1 (rd1 s).2).2).2).2).1, ⟨0, 0, 0⟩, 0, 0, 0, zV, 0, false, 0, 0, []⟩, (rd3 (rd3 (rd1 (rd1 (rd1 s).2).2).2).2).2)
def rdN (q : Ms × RS) : Ms × RS := if q.1.kind = 1 ∨ q.1.kind = 11 then q else ({ q.1 with nm := (rdNm q.2).1 }, (rdNm q.2).2)
def rdM (s : RS) : Ms × RS := rdT (rdN (rdH s)).1 (rdN (rdH s)).2
def zM : Ms := ⟨0, 0, 0, 0, 0, ⟨0, 0, 0⟩, 0, 0, 0, zV, 0, false, 0, 0, []⟩
def readL : List UInt8 → Ms × Int
  | [] => (zM, 40)
  | x :: t => if 127 < x.toNat then (zM, 40) else if (rdM (x :: t, false)).2.2 = false ∧ (rdM (x :: t, false)).2.1 = [] ∧ mayM (rdM (x :: t, false)).1 = true then ((rdM (x :: t, false)).1, 0) else (zM, 40)
def readM (b : List UInt8) : Ms × Int :=
  if 4 ≤ b.length ∧ crcB (crc (b.take (b.length - 4))) = b.drop (b.length - 4) then readL (b.take (b.length - 4)) else (zM, 40)
/-! walk -/
theorem rdF_suf {b : List UInt8} {s : RS} (h : s.1 <:+ b) : (rdF s).2.1 <:+ b := rd1_suf h
@[simp] theorem B3_25n (k fr to inc yo a b c n op bl : Int) (v0 v1 v2 v3 v4 v5 v6 v7 : UInt8) (e : Int) (y : Bool) (g t : Int) : B3 25 [.agg [.int .i8 k, .int .i64 fr, .int .i64 to, .int .i64 inc, .int .i64 yo, .int .i64 a, .int .i64 b, .int .i64 c, .int .i64 n, .int .i8 op, .int .i64 bl, u8 v0, u8 v1, u8 v2, u8 v3, u8 v4, u8 v5, u8 v6, u8 v7, .int .i64 e, .bool y, .int .i64 g, .int .i64 t, .sl .any []]] = some (.bool (mayM ⟨k, fr, to, inc, yo, ⟨a, b, c⟩, n, op, bl, ⟨v0, v1, v2, v3, v4, v5, v6, v7⟩, e, y, g, t, []⟩)) := B3_25 k fr to inc yo a b c n op bl v0 v1 v2 v3 v4 v5 v6 v7 e y g t [] (by simp)
@[simp] theorem B3_13z (k fr to inc yo a b c n op bl : Int) (e : Int) (y : Bool) (g t : Int) (ws : List Wr) (h : ws.length ≤ 1048576) : B3 25 [.agg [.int .i8 k, .int .i64 fr, .int .i64 to, .int .i64 inc, .int .i64 yo, .int .i64 a, .int .i64 b, .int .i64 c, .int .i64 n, .int .i8 op, .int .i64 bl, .int .u8 0, .int .u8 0, .int .u8 0, .int .u8 0, .int .u8 0, .int .u8 0, .int .u8 0, .int .u8 0, .int .i64 e, .bool y, .int .i64 g, .int .i64 t, .sl .any (wrs ws)]] = some (.bool (mayM ⟨k, fr, to, inc, yo, ⟨a, b, c⟩, n, op, bl, zV, e, y, g, t, ws⟩)) := B3_25 k fr to inc yo a b c n op bl 0 0 0 0 0 0 0 0 e y g t ws h
@[simp] theorem B3_13zn (k fr to inc yo a b c n op bl : Int) (e : Int) (y : Bool) (g t : Int) : B3 25 [.agg [.int .i8 k, .int .i64 fr, .int .i64 to, .int .i64 inc, .int .i64 yo, .int .i64 a, .int .i64 b, .int .i64 c, .int .i64 n, .int .i8 op, .int .i64 bl, .int .u8 0, .int .u8 0, .int .u8 0, .int .u8 0, .int .u8 0, .int .u8 0, .int .u8 0, .int .u8 0, .int .i64 e, .bool y, .int .i64 g, .int .i64 t, .sl .any []]] = some (.bool (mayM ⟨k, fr, to, inc, yo, ⟨a, b, c⟩, n, op, bl, zV, e, y, g, t, []⟩)) := B3_25 k fr to inc yo a b c n op bl 0 0 0 0 0 0 0 0 e y g t [] (by simp)
set_option maxRecDepth 20000 in
theorem rr_1 {b : List UInt8} {x : UInt8} {t : List UInt8} (hk : (x.toNat : Int) = 1) (h127 : ¬ 127 < x.toNat) (hll : (x :: t).length ≤ 1000000) (hO : openA b = .tup [.sl .any (ofBytes (x :: t)), .bool true]) (hb : b.length ≤ 1000000) (st : St) : ASpec Try.prog 96 [.sl .any (ofBytes b)] st fun v st' => v = .tup [.agg (msC (readL (x :: t)).1), .int .i64 (readL (x :: t)).2] ∧ st' = st := by
  refine pure_of (R := fun v => v = _) T12s F96 rfl ?_
  have hx := x.toNat_lt
  have hz : (⟨0, 0, 0, 0, 0, 0, 0, 0⟩ : Vl) = zV := rfl
  have h2 : ¬ (t.length : Int) + 1 = 0 := by omega
  have h127' : ¬ (127 : Int) < x.toNat := by omega
  have hw : IntKind.i8.wrap (x.toNat : Int) = x.toNat := IntWalk.i8_in _ (by omega)
  have e0 : rd1 (x :: t, false) = ((x.toNat : Int), (t, false)) := rfl
  simp (disch := first | omega | (simp only [LL]; omega)) [WW, c96, hO, h2, h127']
  refine (rbyte_spec (b := x :: t) (s := (x :: t, false)) (List.suffix_refl _) hll (by simp [refB])).mono ?_
  rintro _ _ ⟨rfl, rfl⟩
  simp (disch := first | omega | (simp only [LL]; omega)) [WW, e0, hw]
  obtain ⟨⟨fr, s1⟩, e1⟩ : ∃ q, rd1 (t, false) = q := ⟨_, rfl⟩
  have su1 : s1.1 <:+ x :: t := by
    have := rd1_suf (b := x :: t) (s := (t, false)) (List.suffix_cons x t)
    rwa [e1] at this
  refine (rbyte_spec (b := x :: t) (s := (t, false)) (List.suffix_cons x t) hll (by simp)).mono ?_
  rintro _ _ ⟨rfl, rfl⟩
  rw [e1]
  simp (disch := first | omega | (simp only [LL]; omega)) [WW]
  obtain ⟨⟨to, s2⟩, e2⟩ : ∃ q, rd1 s1 = q := ⟨_, rfl⟩
  have su2 : s2.1 <:+ x :: t := by
    have := rd1_suf (b := x :: t) (s := s1) su1
    rwa [e2] at this
  refine (rbyte_spec (b := x :: t) (s := s1) su1 hll (by simp)).mono ?_
  rintro _ _ ⟨rfl, rfl⟩
  rw [e2]
  simp (disch := first | omega | (simp only [LL]; omega)) [WW]
  obtain ⟨⟨inc, s3⟩, e3⟩ : ∃ q, rd3 s2 = q := ⟨_, rfl⟩
  have su3 : s3.1 <:+ x :: t := by
    have := rd3_suf (b := x :: t) (s := s2) su2
    rwa [e3] at this
  refine (rthree_spec (b := x :: t) (s := s2) su2 hll (by simp)).mono ?_
  rintro _ _ ⟨rfl, rfl⟩
  rw [e3]
  simp (disch := first | omega | (simp only [LL]; omega)) [WW]
  obtain ⟨⟨yo, s4⟩, e4⟩ : ∃ q, rd3 s3 = q := ⟨_, rfl⟩
  have su4 : s4.1 <:+ x :: t := by
    have := rd3_suf (b := x :: t) (s := s3) su3
    rwa [e4] at this
  refine (rthree_spec (b := x :: t) (s := s3) su3 hll (by simp)).mono ?_
  rintro _ _ ⟨rfl, rfl⟩
  rw [e4]
  simp (disch := first | omega | (simp only [LL]; omega)) [WW]
  simp (disch := first | omega | (simp only [LL]; omega)) [WW, hk]
  obtain ⟨X, hX⟩ : ∃ X : Ms, X = ⟨1, fr, to, inc, yo, ⟨0, 0, 0⟩, 0, 0, 0, zV, 0, false, 0, 0, []⟩ := ⟨_, rfl⟩
  obtain ⟨rem, bad⟩ := s4
  have hM : rdM (x :: t, false) = (X, (rem, bad)) := by
    rw [hX]
    simp [rdM, rdH, rdN, rdT, e0, e1, e2, e3, e4, hk, hz]
  have hRR : readL (x :: t) = if bad = false ∧ rem = [] ∧ mayM X = true then (X, 0) else (zM, 40) := by rw [readL, if_neg h127, hM]
  have hXl : X.ws.length ≤ 1048576 := by
    rw [hX]
    simp
  clear hM
  cases bad with
  | true =>
    simp (disch := first | omega | (simp only [LL]; omega)) [WW, refB]
    simp [hRR, zM, zV, u8]
  | false =>
    cases rem with
    | cons q r =>
      have hne : ¬ ((t.length - r.length : Nat) : Int) = t.length + 1 := by omega
      simp (disch := first | omega | (simp only [LL]; omega)) [WW, refB, hne]
      simp [hRR, zM, zV, u8]
    | nil =>
      cases hm : mayM X
      · have hm' := hm
        rw [hX] at hm'
        simp (disch := first | omega | (simp only [LL]; omega)) [WW, refB, hm', hk, hz, hXl]
        simp [hRR, hm, zM, zV, u8]
      · have hm' := hm
        rw [hX] at hm'
        simp (disch := first | omega | (simp only [LL]; omega)) [WW, refB, hm', hk, hz, hXl]
        have hR2 : readL (x :: t) = (X, 0) := by rw [hRR, if_pos ⟨rfl, rfl, hm⟩]
        simp [hR2, hX, zV, u8]
set_option maxRecDepth 20000 in
theorem rr_11 {b : List UInt8} {x : UInt8} {t : List UInt8} (hk : (x.toNat : Int) = 11) (h127 : ¬ 127 < x.toNat) (hll : (x :: t).length ≤ 1000000) (hO : openA b = .tup [.sl .any (ofBytes (x :: t)), .bool true]) (hb : b.length ≤ 1000000) (st : St) : ASpec Try.prog 96 [.sl .any (ofBytes b)] st fun v st' => v = .tup [.agg (msC (readL (x :: t)).1), .int .i64 (readL (x :: t)).2] ∧ st' = st := by
  refine pure_of (R := fun v => v = _) T12s F96 rfl ?_
  have hx := x.toNat_lt
  have hz : (⟨0, 0, 0, 0, 0, 0, 0, 0⟩ : Vl) = zV := rfl
  have h2 : ¬ (t.length : Int) + 1 = 0 := by omega
  have h127' : ¬ (127 : Int) < x.toNat := by omega
  have hw : IntKind.i8.wrap (x.toNat : Int) = x.toNat := IntWalk.i8_in _ (by omega)
  have e0 : rd1 (x :: t, false) = ((x.toNat : Int), (t, false)) := rfl
  simp (disch := first | omega | (simp only [LL]; omega)) [WW, c96, hO, h2, h127']
  refine (rbyte_spec (b := x :: t) (s := (x :: t, false)) (List.suffix_refl _) hll (by simp [refB])).mono ?_
  rintro _ _ ⟨rfl, rfl⟩
  simp (disch := first | omega | (simp only [LL]; omega)) [WW, e0, hw]
  obtain ⟨⟨fr, s1⟩, e1⟩ : ∃ q, rd1 (t, false) = q := ⟨_, rfl⟩
  have su1 : s1.1 <:+ x :: t := by
    have := rd1_suf (b := x :: t) (s := (t, false)) (List.suffix_cons x t)
    rwa [e1] at this
  refine (rbyte_spec (b := x :: t) (s := (t, false)) (List.suffix_cons x t) hll (by simp)).mono ?_
  rintro _ _ ⟨rfl, rfl⟩
  rw [e1]
  simp (disch := first | omega | (simp only [LL]; omega)) [WW]
  obtain ⟨⟨to, s2⟩, e2⟩ : ∃ q, rd1 s1 = q := ⟨_, rfl⟩
  have su2 : s2.1 <:+ x :: t := by
    have := rd1_suf (b := x :: t) (s := s1) su1
    rwa [e2] at this
  refine (rbyte_spec (b := x :: t) (s := s1) su1 hll (by simp)).mono ?_
  rintro _ _ ⟨rfl, rfl⟩
  rw [e2]
  simp (disch := first | omega | (simp only [LL]; omega)) [WW]
  obtain ⟨⟨inc, s3⟩, e3⟩ : ∃ q, rd3 s2 = q := ⟨_, rfl⟩
  have su3 : s3.1 <:+ x :: t := by
    have := rd3_suf (b := x :: t) (s := s2) su2
    rwa [e3] at this
  refine (rthree_spec (b := x :: t) (s := s2) su2 hll (by simp)).mono ?_
  rintro _ _ ⟨rfl, rfl⟩
  rw [e3]
  simp (disch := first | omega | (simp only [LL]; omega)) [WW]
  obtain ⟨⟨yo, s4⟩, e4⟩ : ∃ q, rd3 s3 = q := ⟨_, rfl⟩
  have su4 : s4.1 <:+ x :: t := by
    have := rd3_suf (b := x :: t) (s := s3) su3
    rwa [e4] at this
  refine (rthree_spec (b := x :: t) (s := s3) su3 hll (by simp)).mono ?_
  rintro _ _ ⟨rfl, rfl⟩
  rw [e4]
  simp (disch := first | omega | (simp only [LL]; omega)) [WW]
  simp (disch := first | omega | (simp only [LL]; omega)) [WW, hk]
  obtain ⟨X, hX⟩ : ∃ X : Ms, X = ⟨11, fr, to, inc, yo, ⟨0, 0, 0⟩, 0, 0, 0, zV, 0, false, 0, 0, []⟩ := ⟨_, rfl⟩
  obtain ⟨rem, bad⟩ := s4
  have hM : rdM (x :: t, false) = (X, (rem, bad)) := by
    rw [hX]
    simp [rdM, rdH, rdN, rdT, e0, e1, e2, e3, e4, hk, hz]
  have hRR : readL (x :: t) = if bad = false ∧ rem = [] ∧ mayM X = true then (X, 0) else (zM, 40) := by rw [readL, if_neg h127, hM]
  have hXl : X.ws.length ≤ 1048576 := by
    rw [hX]
    simp
  clear hM
  cases bad with
  | true =>
    simp (disch := first | omega | (simp only [LL]; omega)) [WW, refB]
    simp [hRR, zM, zV, u8]
  | false =>
    cases rem with
    | cons q r =>
      have hne : ¬ ((t.length - r.length : Nat) : Int) = t.length + 1 := by omega
      simp (disch := first | omega | (simp only [LL]; omega)) [WW, refB, hne]
      simp [hRR, zM, zV, u8]
    | nil =>
      cases hm : mayM X
      · have hm' := hm
        rw [hX] at hm'
        simp (disch := first | omega | (simp only [LL]; omega)) [WW, refB, hm', hk, hz, hXl]
        simp [hRR, hm, zM, zV, u8]
      · have hm' := hm
        rw [hX] at hm'
        simp (disch := first | omega | (simp only [LL]; omega)) [WW, refB, hm', hk, hz, hXl]
        have hR2 : readL (x :: t) = (X, 0) := by rw [hRR, if_pos ⟨rfl, rfl, hm⟩]
        simp [hR2, hX, zV, u8]
set_option maxRecDepth 20000 in
theorem rr_7 {b : List UInt8} {x : UInt8} {t : List UInt8} (hk : (x.toNat : Int) = 7) (h127 : ¬ 127 < x.toNat) (hll : (x :: t).length ≤ 1000000) (hO : openA b = .tup [.sl .any (ofBytes (x :: t)), .bool true]) (hb : b.length ≤ 1000000) (st : St) : ASpec Try.prog 96 [.sl .any (ofBytes b)] st fun v st' => v = .tup [.agg (msC (readL (x :: t)).1), .int .i64 (readL (x :: t)).2] ∧ st' = st := by
  refine pure_of (R := fun v => v = _) T12s F96 rfl ?_
  have hx := x.toNat_lt
  have hz : (⟨0, 0, 0, 0, 0, 0, 0, 0⟩ : Vl) = zV := rfl
  have h2 : ¬ (t.length : Int) + 1 = 0 := by omega
  have h127' : ¬ (127 : Int) < x.toNat := by omega
  have hw : IntKind.i8.wrap (x.toNat : Int) = x.toNat := IntWalk.i8_in _ (by omega)
  have e0 : rd1 (x :: t, false) = ((x.toNat : Int), (t, false)) := rfl
  simp (disch := first | omega | (simp only [LL]; omega)) [WW, c96, hO, h2, h127']
  refine (rbyte_spec (b := x :: t) (s := (x :: t, false)) (List.suffix_refl _) hll (by simp [refB])).mono ?_
  rintro _ _ ⟨rfl, rfl⟩
  simp (disch := first | omega | (simp only [LL]; omega)) [WW, e0, hw]
  obtain ⟨⟨fr, s1⟩, e1⟩ : ∃ q, rd1 (t, false) = q := ⟨_, rfl⟩
  have su1 : s1.1 <:+ x :: t := by
    have := rd1_suf (b := x :: t) (s := (t, false)) (List.suffix_cons x t)
    rwa [e1] at this
  refine (rbyte_spec (b := x :: t) (s := (t, false)) (List.suffix_cons x t) hll (by simp)).mono ?_
  rintro _ _ ⟨rfl, rfl⟩
  rw [e1]
  simp (disch := first | omega | (simp only [LL]; omega)) [WW]
  obtain ⟨⟨to, s2⟩, e2⟩ : ∃ q, rd1 s1 = q := ⟨_, rfl⟩
  have su2 : s2.1 <:+ x :: t := by
    have := rd1_suf (b := x :: t) (s := s1) su1
    rwa [e2] at this
  refine (rbyte_spec (b := x :: t) (s := s1) su1 hll (by simp)).mono ?_
  rintro _ _ ⟨rfl, rfl⟩
  rw [e2]
  simp (disch := first | omega | (simp only [LL]; omega)) [WW]
  obtain ⟨⟨inc, s3⟩, e3⟩ : ∃ q, rd3 s2 = q := ⟨_, rfl⟩
  have su3 : s3.1 <:+ x :: t := by
    have := rd3_suf (b := x :: t) (s := s2) su2
    rwa [e3] at this
  refine (rthree_spec (b := x :: t) (s := s2) su2 hll (by simp)).mono ?_
  rintro _ _ ⟨rfl, rfl⟩
  rw [e3]
  simp (disch := first | omega | (simp only [LL]; omega)) [WW]
  obtain ⟨⟨yo, s4⟩, e4⟩ : ∃ q, rd3 s3 = q := ⟨_, rfl⟩
  have su4 : s4.1 <:+ x :: t := by
    have := rd3_suf (b := x :: t) (s := s3) su3
    rwa [e4] at this
  refine (rthree_spec (b := x :: t) (s := s3) su3 hll (by simp)).mono ?_
  rintro _ _ ⟨rfl, rfl⟩
  rw [e4]
  simp (disch := first | omega | (simp only [LL]; omega)) [WW]
  simp (disch := first | omega | (simp only [LL]; omega)) [WW, hk]
  obtain ⟨⟨⟨n1, n2, n3⟩, s5⟩, e5⟩ : ∃ q, rdNm s4 = q := ⟨_, rfl⟩
  have su5 : s5.1 <:+ x :: t := by
    have := rdNm_suf (b := x :: t) (s := s4) su4
    rwa [e5] at this
  refine (rname_spec (b := x :: t) (s := s4) su4 hll (by simp)).mono ?_
  rintro _ _ ⟨rfl, rfl⟩
  rw [e5]
  simp (disch := first | omega | (simp only [LL]; omega)) [WW]
  obtain ⟨X, hX⟩ : ∃ X : Ms, X = ⟨7, fr, to, inc, yo, ⟨n1, n2, n3⟩, 0, 0, 0, zV, 0, false, 0, 0, []⟩ := ⟨_, rfl⟩
  obtain ⟨rem, bad⟩ := s5
  have hM : rdM (x :: t, false) = (X, (rem, bad)) := by
    rw [hX]
    simp [rdM, rdH, rdN, rdT, e0, e1, e2, e3, e4, e5, hk, hz]
  have hRR : readL (x :: t) = if bad = false ∧ rem = [] ∧ mayM X = true then (X, 0) else (zM, 40) := by rw [readL, if_neg h127, hM]
  have hXl : X.ws.length ≤ 1048576 := by
    rw [hX]
    simp
  clear hM
  cases bad with
  | true =>
    simp (disch := first | omega | (simp only [LL]; omega)) [WW, refB]
    simp [hRR, zM, zV, u8]
  | false =>
    cases rem with
    | cons q r =>
      have hne : ¬ ((t.length - r.length : Nat) : Int) = t.length + 1 := by omega
      simp (disch := first | omega | (simp only [LL]; omega)) [WW, refB, hne]
      simp [hRR, zM, zV, u8]
    | nil =>
      cases hm : mayM X
      · have hm' := hm
        rw [hX] at hm'
        simp (disch := first | omega | (simp only [LL]; omega)) [WW, refB, hm', hk, hz, hXl]
        simp [hRR, hm, zM, zV, u8]
      · have hm' := hm
        rw [hX] at hm'
        simp (disch := first | omega | (simp only [LL]; omega)) [WW, refB, hm', hk, hz, hXl]
        have hR2 : readL (x :: t) = (X, 0) := by rw [hRR, if_pos ⟨rfl, rfl, hm⟩]
        simp [hR2, hX, zV, u8]
set_option maxRecDepth 20000 in
theorem rr_8 {b : List UInt8} {x : UInt8} {t : List UInt8} (hk : (x.toNat : Int) = 8) (h127 : ¬ 127 < x.toNat) (hll : (x :: t).length ≤ 1000000) (hO : openA b = .tup [.sl .any (ofBytes (x :: t)), .bool true]) (hb : b.length ≤ 1000000) (st : St) : ASpec Try.prog 96 [.sl .any (ofBytes b)] st fun v st' => v = .tup [.agg (msC (readL (x :: t)).1), .int .i64 (readL (x :: t)).2] ∧ st' = st := by
  refine pure_of (R := fun v => v = _) T12s F96 rfl ?_
  have hx := x.toNat_lt
  have hz : (⟨0, 0, 0, 0, 0, 0, 0, 0⟩ : Vl) = zV := rfl
  have h2 : ¬ (t.length : Int) + 1 = 0 := by omega
  have h127' : ¬ (127 : Int) < x.toNat := by omega
  have hw : IntKind.i8.wrap (x.toNat : Int) = x.toNat := IntWalk.i8_in _ (by omega)
  have e0 : rd1 (x :: t, false) = ((x.toNat : Int), (t, false)) := rfl
  simp (disch := first | omega | (simp only [LL]; omega)) [WW, c96, hO, h2, h127']
  refine (rbyte_spec (b := x :: t) (s := (x :: t, false)) (List.suffix_refl _) hll (by simp [refB])).mono ?_
  rintro _ _ ⟨rfl, rfl⟩
  simp (disch := first | omega | (simp only [LL]; omega)) [WW, e0, hw]
  obtain ⟨⟨fr, s1⟩, e1⟩ : ∃ q, rd1 (t, false) = q := ⟨_, rfl⟩
  have su1 : s1.1 <:+ x :: t := by
    have := rd1_suf (b := x :: t) (s := (t, false)) (List.suffix_cons x t)
    rwa [e1] at this
  refine (rbyte_spec (b := x :: t) (s := (t, false)) (List.suffix_cons x t) hll (by simp)).mono ?_
  rintro _ _ ⟨rfl, rfl⟩
  rw [e1]
  simp (disch := first | omega | (simp only [LL]; omega)) [WW]
  obtain ⟨⟨to, s2⟩, e2⟩ : ∃ q, rd1 s1 = q := ⟨_, rfl⟩
  have su2 : s2.1 <:+ x :: t := by
    have := rd1_suf (b := x :: t) (s := s1) su1
    rwa [e2] at this
  refine (rbyte_spec (b := x :: t) (s := s1) su1 hll (by simp)).mono ?_
  rintro _ _ ⟨rfl, rfl⟩
  rw [e2]
  simp (disch := first | omega | (simp only [LL]; omega)) [WW]
  obtain ⟨⟨inc, s3⟩, e3⟩ : ∃ q, rd3 s2 = q := ⟨_, rfl⟩
  have su3 : s3.1 <:+ x :: t := by
    have := rd3_suf (b := x :: t) (s := s2) su2
    rwa [e3] at this
  refine (rthree_spec (b := x :: t) (s := s2) su2 hll (by simp)).mono ?_
  rintro _ _ ⟨rfl, rfl⟩
  rw [e3]
  simp (disch := first | omega | (simp only [LL]; omega)) [WW]
  obtain ⟨⟨yo, s4⟩, e4⟩ : ∃ q, rd3 s3 = q := ⟨_, rfl⟩
  have su4 : s4.1 <:+ x :: t := by
    have := rd3_suf (b := x :: t) (s := s3) su3
    rwa [e4] at this
  refine (rthree_spec (b := x :: t) (s := s3) su3 hll (by simp)).mono ?_
  rintro _ _ ⟨rfl, rfl⟩
  rw [e4]
  simp (disch := first | omega | (simp only [LL]; omega)) [WW]
  simp (disch := first | omega | (simp only [LL]; omega)) [WW, hk]
  obtain ⟨⟨⟨n1, n2, n3⟩, s5⟩, e5⟩ : ∃ q, rdNm s4 = q := ⟨_, rfl⟩
  have su5 : s5.1 <:+ x :: t := by
    have := rdNm_suf (b := x :: t) (s := s4) su4
    rwa [e5] at this
  refine (rname_spec (b := x :: t) (s := s4) su4 hll (by simp)).mono ?_
  rintro _ _ ⟨rfl, rfl⟩
  rw [e5]
  simp (disch := first | omega | (simp only [LL]; omega)) [WW]
  obtain ⟨X, hX⟩ : ∃ X : Ms, X = ⟨8, fr, to, inc, yo, ⟨n1, n2, n3⟩, 0, 0, 0, zV, 0, false, 0, 0, []⟩ := ⟨_, rfl⟩
  obtain ⟨rem, bad⟩ := s5
  have hM : rdM (x :: t, false) = (X, (rem, bad)) := by
    rw [hX]
    simp [rdM, rdH, rdN, rdT, e0, e1, e2, e3, e4, e5, hk, hz]
  have hRR : readL (x :: t) = if bad = false ∧ rem = [] ∧ mayM X = true then (X, 0) else (zM, 40) := by rw [readL, if_neg h127, hM]
  have hXl : X.ws.length ≤ 1048576 := by
    rw [hX]
    simp
  clear hM
  cases bad with
  | true =>
    simp (disch := first | omega | (simp only [LL]; omega)) [WW, refB]
    simp [hRR, zM, zV, u8]
  | false =>
    cases rem with
    | cons q r =>
      have hne : ¬ ((t.length - r.length : Nat) : Int) = t.length + 1 := by omega
      simp (disch := first | omega | (simp only [LL]; omega)) [WW, refB, hne]
      simp [hRR, zM, zV, u8]
    | nil =>
      cases hm : mayM X
      · have hm' := hm
        rw [hX] at hm'
        simp (disch := first | omega | (simp only [LL]; omega)) [WW, refB, hm', hk, hz, hXl]
        simp [hRR, hm, zM, zV, u8]
      · have hm' := hm
        rw [hX] at hm'
        simp (disch := first | omega | (simp only [LL]; omega)) [WW, refB, hm', hk, hz, hXl]
        have hR2 : readL (x :: t) = (X, 0) := by rw [hRR, if_pos ⟨rfl, rfl, hm⟩]
        simp [hR2, hX, zV, u8]
set_option maxRecDepth 20000 in
theorem rr_9 {b : List UInt8} {x : UInt8} {t : List UInt8} (hk : (x.toNat : Int) = 9) (h127 : ¬ 127 < x.toNat) (hll : (x :: t).length ≤ 1000000) (hO : openA b = .tup [.sl .any (ofBytes (x :: t)), .bool true]) (hb : b.length ≤ 1000000) (st : St) : ASpec Try.prog 96 [.sl .any (ofBytes b)] st fun v st' => v = .tup [.agg (msC (readL (x :: t)).1), .int .i64 (readL (x :: t)).2] ∧ st' = st := by
  refine pure_of (R := fun v => v = _) T12s F96 rfl ?_
  have hx := x.toNat_lt
  have hz : (⟨0, 0, 0, 0, 0, 0, 0, 0⟩ : Vl) = zV := rfl
  have h2 : ¬ (t.length : Int) + 1 = 0 := by omega
  have h127' : ¬ (127 : Int) < x.toNat := by omega
  have hw : IntKind.i8.wrap (x.toNat : Int) = x.toNat := IntWalk.i8_in _ (by omega)
  have e0 : rd1 (x :: t, false) = ((x.toNat : Int), (t, false)) := rfl
  simp (disch := first | omega | (simp only [LL]; omega)) [WW, c96, hO, h2, h127']
  refine (rbyte_spec (b := x :: t) (s := (x :: t, false)) (List.suffix_refl _) hll (by simp [refB])).mono ?_
  rintro _ _ ⟨rfl, rfl⟩
  simp (disch := first | omega | (simp only [LL]; omega)) [WW, e0, hw]
  obtain ⟨⟨fr, s1⟩, e1⟩ : ∃ q, rd1 (t, false) = q := ⟨_, rfl⟩
  have su1 : s1.1 <:+ x :: t := by
    have := rd1_suf (b := x :: t) (s := (t, false)) (List.suffix_cons x t)
    rwa [e1] at this
  refine (rbyte_spec (b := x :: t) (s := (t, false)) (List.suffix_cons x t) hll (by simp)).mono ?_
  rintro _ _ ⟨rfl, rfl⟩
  rw [e1]
  simp (disch := first | omega | (simp only [LL]; omega)) [WW]
  obtain ⟨⟨to, s2⟩, e2⟩ : ∃ q, rd1 s1 = q := ⟨_, rfl⟩
  have su2 : s2.1 <:+ x :: t := by
    have := rd1_suf (b := x :: t) (s := s1) su1
    rwa [e2] at this
  refine (rbyte_spec (b := x :: t) (s := s1) su1 hll (by simp)).mono ?_
  rintro _ _ ⟨rfl, rfl⟩
  rw [e2]
  simp (disch := first | omega | (simp only [LL]; omega)) [WW]
  obtain ⟨⟨inc, s3⟩, e3⟩ : ∃ q, rd3 s2 = q := ⟨_, rfl⟩
  have su3 : s3.1 <:+ x :: t := by
    have := rd3_suf (b := x :: t) (s := s2) su2
    rwa [e3] at this
  refine (rthree_spec (b := x :: t) (s := s2) su2 hll (by simp)).mono ?_
  rintro _ _ ⟨rfl, rfl⟩
  rw [e3]
  simp (disch := first | omega | (simp only [LL]; omega)) [WW]
  obtain ⟨⟨yo, s4⟩, e4⟩ : ∃ q, rd3 s3 = q := ⟨_, rfl⟩
  have su4 : s4.1 <:+ x :: t := by
    have := rd3_suf (b := x :: t) (s := s3) su3
    rwa [e4] at this
  refine (rthree_spec (b := x :: t) (s := s3) su3 hll (by simp)).mono ?_
  rintro _ _ ⟨rfl, rfl⟩
  rw [e4]
  simp (disch := first | omega | (simp only [LL]; omega)) [WW]
  simp (disch := first | omega | (simp only [LL]; omega)) [WW, hk]
  obtain ⟨⟨⟨n1, n2, n3⟩, s5⟩, e5⟩ : ∃ q, rdNm s4 = q := ⟨_, rfl⟩
  have su5 : s5.1 <:+ x :: t := by
    have := rdNm_suf (b := x :: t) (s := s4) su4
    rwa [e5] at this
  refine (rname_spec (b := x :: t) (s := s4) su4 hll (by simp)).mono ?_
  rintro _ _ ⟨rfl, rfl⟩
  rw [e5]
  simp (disch := first | omega | (simp only [LL]; omega)) [WW]
  obtain ⟨X, hX⟩ : ∃ X : Ms, X = ⟨9, fr, to, inc, yo, ⟨n1, n2, n3⟩, 0, 0, 0, zV, 0, false, 0, 0, []⟩ := ⟨_, rfl⟩
  obtain ⟨rem, bad⟩ := s5
  have hM : rdM (x :: t, false) = (X, (rem, bad)) := by
    rw [hX]
    simp [rdM, rdH, rdN, rdT, e0, e1, e2, e3, e4, e5, hk, hz]
  have hRR : readL (x :: t) = if bad = false ∧ rem = [] ∧ mayM X = true then (X, 0) else (zM, 40) := by rw [readL, if_neg h127, hM]
  have hXl : X.ws.length ≤ 1048576 := by
    rw [hX]
    simp
  clear hM
  cases bad with
  | true =>
    simp (disch := first | omega | (simp only [LL]; omega)) [WW, refB]
    simp [hRR, zM, zV, u8]
  | false =>
    cases rem with
    | cons q r =>
      have hne : ¬ ((t.length - r.length : Nat) : Int) = t.length + 1 := by omega
      simp (disch := first | omega | (simp only [LL]; omega)) [WW, refB, hne]
      simp [hRR, zM, zV, u8]
    | nil =>
      cases hm : mayM X
      · have hm' := hm
        rw [hX] at hm'
        simp (disch := first | omega | (simp only [LL]; omega)) [WW, refB, hm', hk, hz, hXl]
        simp [hRR, hm, zM, zV, u8]
      · have hm' := hm
        rw [hX] at hm'
        simp (disch := first | omega | (simp only [LL]; omega)) [WW, refB, hm', hk, hz, hXl]
        have hR2 : readL (x :: t) = (X, 0) := by rw [hRR, if_pos ⟨rfl, rfl, hm⟩]
        simp [hR2, hX, zV, u8]
set_option maxRecDepth 20000 in
theorem rr_5 {b : List UInt8} {x : UInt8} {t : List UInt8} (hk : (x.toNat : Int) = 5) (h127 : ¬ 127 < x.toNat) (hll : (x :: t).length ≤ 1000000) (hO : openA b = .tup [.sl .any (ofBytes (x :: t)), .bool true]) (hb : b.length ≤ 1000000) (st : St) : ASpec Try.prog 96 [.sl .any (ofBytes b)] st fun v st' => v = .tup [.agg (msC (readL (x :: t)).1), .int .i64 (readL (x :: t)).2] ∧ st' = st := by
  refine pure_of (R := fun v => v = _) T12s F96 rfl ?_
  have hx := x.toNat_lt
  have hz : (⟨0, 0, 0, 0, 0, 0, 0, 0⟩ : Vl) = zV := rfl
  have h2 : ¬ (t.length : Int) + 1 = 0 := by omega
  have h127' : ¬ (127 : Int) < x.toNat := by omega
  have hw : IntKind.i8.wrap (x.toNat : Int) = x.toNat := IntWalk.i8_in _ (by omega)
  have e0 : rd1 (x :: t, false) = ((x.toNat : Int), (t, false)) := rfl
  simp (disch := first | omega | (simp only [LL]; omega)) [WW, c96, hO, h2, h127']
  refine (rbyte_spec (b := x :: t) (s := (x :: t, false)) (List.suffix_refl _) hll (by simp [refB])).mono ?_
  rintro _ _ ⟨rfl, rfl⟩
  simp (disch := first | omega | (simp only [LL]; omega)) [WW, e0, hw]
  obtain ⟨⟨fr, s1⟩, e1⟩ : ∃ q, rd1 (t, false) = q := ⟨_, rfl⟩
  have su1 : s1.1 <:+ x :: t := by
    have := rd1_suf (b := x :: t) (s := (t, false)) (List.suffix_cons x t)
    rwa [e1] at this
  refine (rbyte_spec (b := x :: t) (s := (t, false)) (List.suffix_cons x t) hll (by simp)).mono ?_
  rintro _ _ ⟨rfl, rfl⟩
  rw [e1]
  simp (disch := first | omega | (simp only [LL]; omega)) [WW]
  obtain ⟨⟨to, s2⟩, e2⟩ : ∃ q, rd1 s1 = q := ⟨_, rfl⟩
  have su2 : s2.1 <:+ x :: t := by
    have := rd1_suf (b := x :: t) (s := s1) su1
    rwa [e2] at this
  refine (rbyte_spec (b := x :: t) (s := s1) su1 hll (by simp)).mono ?_
  rintro _ _ ⟨rfl, rfl⟩
  rw [e2]
  simp (disch := first | omega | (simp only [LL]; omega)) [WW]
  obtain ⟨⟨inc, s3⟩, e3⟩ : ∃ q, rd3 s2 = q := ⟨_, rfl⟩
  have su3 : s3.1 <:+ x :: t := by
    have := rd3_suf (b := x :: t) (s := s2) su2
    rwa [e3] at this
  refine (rthree_spec (b := x :: t) (s := s2) su2 hll (by simp)).mono ?_
  rintro _ _ ⟨rfl, rfl⟩
  rw [e3]
  simp (disch := first | omega | (simp only [LL]; omega)) [WW]
  obtain ⟨⟨yo, s4⟩, e4⟩ : ∃ q, rd3 s3 = q := ⟨_, rfl⟩
  have su4 : s4.1 <:+ x :: t := by
    have := rd3_suf (b := x :: t) (s := s3) su3
    rwa [e4] at this
  refine (rthree_spec (b := x :: t) (s := s3) su3 hll (by simp)).mono ?_
  rintro _ _ ⟨rfl, rfl⟩
  rw [e4]
  simp (disch := first | omega | (simp only [LL]; omega)) [WW]
  simp (disch := first | omega | (simp only [LL]; omega)) [WW, hk]
  obtain ⟨⟨⟨n1, n2, n3⟩, s5⟩, e5⟩ : ∃ q, rdNm s4 = q := ⟨_, rfl⟩
  have su5 : s5.1 <:+ x :: t := by
    have := rdNm_suf (b := x :: t) (s := s4) su4
    rwa [e5] at this
  refine (rname_spec (b := x :: t) (s := s4) su4 hll (by simp)).mono ?_
  rintro _ _ ⟨rfl, rfl⟩
  rw [e5]
  simp (disch := first | omega | (simp only [LL]; omega)) [WW]
  obtain ⟨⟨y, s6⟩, e6⟩ : ∃ q, rdF s5 = q := ⟨_, rfl⟩
  have su6 : s6.1 <:+ x :: t := by
    have := rdF_suf (b := x :: t) (s := s5) su5
    rwa [e6] at this
  refine (rflag_spec (b := x :: t) (s := s5) su5 hll (by simp)).mono ?_
  rintro _ _ ⟨rfl, rfl⟩
  rw [e6]
  simp (disch := first | omega | (simp only [LL]; omega)) [WW]
  obtain ⟨X, hX⟩ : ∃ X : Ms, X = ⟨5, fr, to, inc, yo, ⟨n1, n2, n3⟩, 0, 0, 0, zV, 0, y, 0, 0, []⟩ := ⟨_, rfl⟩
  obtain ⟨rem, bad⟩ := s6
  have hM : rdM (x :: t, false) = (X, (rem, bad)) := by
    rw [hX]
    simp [rdM, rdH, rdN, rdT, e0, e1, e2, e3, e4, e5, e6, hk, hz]
  have hRR : readL (x :: t) = if bad = false ∧ rem = [] ∧ mayM X = true then (X, 0) else (zM, 40) := by rw [readL, if_neg h127, hM]
  have hXl : X.ws.length ≤ 1048576 := by
    rw [hX]
    simp
  clear hM
  cases bad with
  | true =>
    simp (disch := first | omega | (simp only [LL]; omega)) [WW, refB]
    simp [hRR, zM, zV, u8]
  | false =>
    cases rem with
    | cons q r =>
      have hne : ¬ ((t.length - r.length : Nat) : Int) = t.length + 1 := by omega
      simp (disch := first | omega | (simp only [LL]; omega)) [WW, refB, hne]
      simp [hRR, zM, zV, u8]
    | nil =>
      cases hm : mayM X
      · have hm' := hm
        rw [hX] at hm'
        simp (disch := first | omega | (simp only [LL]; omega)) [WW, refB, hm', hk, hz, hXl]
        simp [hRR, hm, zM, zV, u8]
      · have hm' := hm
        rw [hX] at hm'
        simp (disch := first | omega | (simp only [LL]; omega)) [WW, refB, hm', hk, hz, hXl]
        have hR2 : readL (x :: t) = (X, 0) := by rw [hRR, if_pos ⟨rfl, rfl, hm⟩]
        simp [hR2, hX, zV, u8]
set_option maxRecDepth 20000 in
theorem rr_6 {b : List UInt8} {x : UInt8} {t : List UInt8} (hk : (x.toNat : Int) = 6) (h127 : ¬ 127 < x.toNat) (hll : (x :: t).length ≤ 1000000) (hO : openA b = .tup [.sl .any (ofBytes (x :: t)), .bool true]) (hb : b.length ≤ 1000000) (st : St) : ASpec Try.prog 96 [.sl .any (ofBytes b)] st fun v st' => v = .tup [.agg (msC (readL (x :: t)).1), .int .i64 (readL (x :: t)).2] ∧ st' = st := by
  refine pure_of (R := fun v => v = _) T12s F96 rfl ?_
  have hx := x.toNat_lt
  have hz : (⟨0, 0, 0, 0, 0, 0, 0, 0⟩ : Vl) = zV := rfl
  have h2 : ¬ (t.length : Int) + 1 = 0 := by omega
  have h127' : ¬ (127 : Int) < x.toNat := by omega
  have hw : IntKind.i8.wrap (x.toNat : Int) = x.toNat := IntWalk.i8_in _ (by omega)
  have e0 : rd1 (x :: t, false) = ((x.toNat : Int), (t, false)) := rfl
  simp (disch := first | omega | (simp only [LL]; omega)) [WW, c96, hO, h2, h127']
  refine (rbyte_spec (b := x :: t) (s := (x :: t, false)) (List.suffix_refl _) hll (by simp [refB])).mono ?_
  rintro _ _ ⟨rfl, rfl⟩
  simp (disch := first | omega | (simp only [LL]; omega)) [WW, e0, hw]
  obtain ⟨⟨fr, s1⟩, e1⟩ : ∃ q, rd1 (t, false) = q := ⟨_, rfl⟩
  have su1 : s1.1 <:+ x :: t := by
    have := rd1_suf (b := x :: t) (s := (t, false)) (List.suffix_cons x t)
    rwa [e1] at this
  refine (rbyte_spec (b := x :: t) (s := (t, false)) (List.suffix_cons x t) hll (by simp)).mono ?_
  rintro _ _ ⟨rfl, rfl⟩
  rw [e1]
  simp (disch := first | omega | (simp only [LL]; omega)) [WW]
  obtain ⟨⟨to, s2⟩, e2⟩ : ∃ q, rd1 s1 = q := ⟨_, rfl⟩
  have su2 : s2.1 <:+ x :: t := by
    have := rd1_suf (b := x :: t) (s := s1) su1
    rwa [e2] at this
  refine (rbyte_spec (b := x :: t) (s := s1) su1 hll (by simp)).mono ?_
  rintro _ _ ⟨rfl, rfl⟩
  rw [e2]
  simp (disch := first | omega | (simp only [LL]; omega)) [WW]
  obtain ⟨⟨inc, s3⟩, e3⟩ : ∃ q, rd3 s2 = q := ⟨_, rfl⟩
  have su3 : s3.1 <:+ x :: t := by
    have := rd3_suf (b := x :: t) (s := s2) su2
    rwa [e3] at this
  refine (rthree_spec (b := x :: t) (s := s2) su2 hll (by simp)).mono ?_
  rintro _ _ ⟨rfl, rfl⟩
  rw [e3]
  simp (disch := first | omega | (simp only [LL]; omega)) [WW]
  obtain ⟨⟨yo, s4⟩, e4⟩ : ∃ q, rd3 s3 = q := ⟨_, rfl⟩
  have su4 : s4.1 <:+ x :: t := by
    have := rd3_suf (b := x :: t) (s := s3) su3
    rwa [e4] at this
  refine (rthree_spec (b := x :: t) (s := s3) su3 hll (by simp)).mono ?_
  rintro _ _ ⟨rfl, rfl⟩
  rw [e4]
  simp (disch := first | omega | (simp only [LL]; omega)) [WW]
  simp (disch := first | omega | (simp only [LL]; omega)) [WW, hk]
  obtain ⟨⟨⟨n1, n2, n3⟩, s5⟩, e5⟩ : ∃ q, rdNm s4 = q := ⟨_, rfl⟩
  have su5 : s5.1 <:+ x :: t := by
    have := rdNm_suf (b := x :: t) (s := s4) su4
    rwa [e5] at this
  refine (rname_spec (b := x :: t) (s := s4) su4 hll (by simp)).mono ?_
  rintro _ _ ⟨rfl, rfl⟩
  rw [e5]
  simp (disch := first | omega | (simp only [LL]; omega)) [WW]
  obtain ⟨⟨y, s6⟩, e6⟩ : ∃ q, rdF s5 = q := ⟨_, rfl⟩
  have su6 : s6.1 <:+ x :: t := by
    have := rdF_suf (b := x :: t) (s := s5) su5
    rwa [e6] at this
  refine (rflag_spec (b := x :: t) (s := s5) su5 hll (by simp)).mono ?_
  rintro _ _ ⟨rfl, rfl⟩
  rw [e6]
  simp (disch := first | omega | (simp only [LL]; omega)) [WW]
  obtain ⟨X, hX⟩ : ∃ X : Ms, X = ⟨6, fr, to, inc, yo, ⟨n1, n2, n3⟩, 0, 0, 0, zV, 0, y, 0, 0, []⟩ := ⟨_, rfl⟩
  obtain ⟨rem, bad⟩ := s6
  have hM : rdM (x :: t, false) = (X, (rem, bad)) := by
    rw [hX]
    simp [rdM, rdH, rdN, rdT, e0, e1, e2, e3, e4, e5, e6, hk, hz]
  have hRR : readL (x :: t) = if bad = false ∧ rem = [] ∧ mayM X = true then (X, 0) else (zM, 40) := by rw [readL, if_neg h127, hM]
  have hXl : X.ws.length ≤ 1048576 := by
    rw [hX]
    simp
  clear hM
  cases bad with
  | true =>
    simp (disch := first | omega | (simp only [LL]; omega)) [WW, refB]
    simp [hRR, zM, zV, u8]
  | false =>
    cases rem with
    | cons q r =>
      have hne : ¬ ((t.length - r.length : Nat) : Int) = t.length + 1 := by omega
      simp (disch := first | omega | (simp only [LL]; omega)) [WW, refB, hne]
      simp [hRR, zM, zV, u8]
    | nil =>
      cases hm : mayM X
      · have hm' := hm
        rw [hX] at hm'
        simp (disch := first | omega | (simp only [LL]; omega)) [WW, refB, hm', hk, hz, hXl]
        simp [hRR, hm, zM, zV, u8]
      · have hm' := hm
        rw [hX] at hm'
        simp (disch := first | omega | (simp only [LL]; omega)) [WW, refB, hm', hk, hz, hXl]
        have hR2 : readL (x :: t) = (X, 0) := by rw [hRR, if_pos ⟨rfl, rfl, hm⟩]
        simp [hR2, hX, zV, u8]
set_option maxRecDepth 20000 in
theorem rr_10 {b : List UInt8} {x : UInt8} {t : List UInt8} (hk : (x.toNat : Int) = 10) (h127 : ¬ 127 < x.toNat) (hll : (x :: t).length ≤ 1000000) (hO : openA b = .tup [.sl .any (ofBytes (x :: t)), .bool true]) (hb : b.length ≤ 1000000) (st : St) : ASpec Try.prog 96 [.sl .any (ofBytes b)] st fun v st' => v = .tup [.agg (msC (readL (x :: t)).1), .int .i64 (readL (x :: t)).2] ∧ st' = st := by
  refine pure_of (R := fun v => v = _) T12s F96 rfl ?_
  have hx := x.toNat_lt
  have hz : (⟨0, 0, 0, 0, 0, 0, 0, 0⟩ : Vl) = zV := rfl
  have h2 : ¬ (t.length : Int) + 1 = 0 := by omega
  have h127' : ¬ (127 : Int) < x.toNat := by omega
  have hw : IntKind.i8.wrap (x.toNat : Int) = x.toNat := IntWalk.i8_in _ (by omega)
  have e0 : rd1 (x :: t, false) = ((x.toNat : Int), (t, false)) := rfl
  simp (disch := first | omega | (simp only [LL]; omega)) [WW, c96, hO, h2, h127']
  refine (rbyte_spec (b := x :: t) (s := (x :: t, false)) (List.suffix_refl _) hll (by simp [refB])).mono ?_
  rintro _ _ ⟨rfl, rfl⟩
  simp (disch := first | omega | (simp only [LL]; omega)) [WW, e0, hw]
  obtain ⟨⟨fr, s1⟩, e1⟩ : ∃ q, rd1 (t, false) = q := ⟨_, rfl⟩
  have su1 : s1.1 <:+ x :: t := by
    have := rd1_suf (b := x :: t) (s := (t, false)) (List.suffix_cons x t)
    rwa [e1] at this
  refine (rbyte_spec (b := x :: t) (s := (t, false)) (List.suffix_cons x t) hll (by simp)).mono ?_
  rintro _ _ ⟨rfl, rfl⟩
  rw [e1]
  simp (disch := first | omega | (simp only [LL]; omega)) [WW]
  obtain ⟨⟨to, s2⟩, e2⟩ : ∃ q, rd1 s1 = q := ⟨_, rfl⟩
  have su2 : s2.1 <:+ x :: t := by
    have := rd1_suf (b := x :: t) (s := s1) su1
    rwa [e2] at this
  refine (rbyte_spec (b := x :: t) (s := s1) su1 hll (by simp)).mono ?_
  rintro _ _ ⟨rfl, rfl⟩
  rw [e2]
  simp (disch := first | omega | (simp only [LL]; omega)) [WW]
  obtain ⟨⟨inc, s3⟩, e3⟩ : ∃ q, rd3 s2 = q := ⟨_, rfl⟩
  have su3 : s3.1 <:+ x :: t := by
    have := rd3_suf (b := x :: t) (s := s2) su2
    rwa [e3] at this
  refine (rthree_spec (b := x :: t) (s := s2) su2 hll (by simp)).mono ?_
  rintro _ _ ⟨rfl, rfl⟩
  rw [e3]
  simp (disch := first | omega | (simp only [LL]; omega)) [WW]
  obtain ⟨⟨yo, s4⟩, e4⟩ : ∃ q, rd3 s3 = q := ⟨_, rfl⟩
  have su4 : s4.1 <:+ x :: t := by
    have := rd3_suf (b := x :: t) (s := s3) su3
    rwa [e4] at this
  refine (rthree_spec (b := x :: t) (s := s3) su3 hll (by simp)).mono ?_
  rintro _ _ ⟨rfl, rfl⟩
  rw [e4]
  simp (disch := first | omega | (simp only [LL]; omega)) [WW]
  simp (disch := first | omega | (simp only [LL]; omega)) [WW, hk]
  obtain ⟨⟨⟨n1, n2, n3⟩, s5⟩, e5⟩ : ∃ q, rdNm s4 = q := ⟨_, rfl⟩
  have su5 : s5.1 <:+ x :: t := by
    have := rdNm_suf (b := x :: t) (s := s4) su4
    rwa [e5] at this
  refine (rname_spec (b := x :: t) (s := s4) su4 hll (by simp)).mono ?_
  rintro _ _ ⟨rfl, rfl⟩
  rw [e5]
  simp (disch := first | omega | (simp only [LL]; omega)) [WW]
  obtain ⟨⟨lo, s6⟩, e6⟩ : ∃ q, rd1 s5 = q := ⟨_, rfl⟩
  have su6 : s6.1 <:+ x :: t := by
    have := rd1_suf (b := x :: t) (s := s5) su5
    rwa [e6] at this
  refine (rbyte_spec (b := x :: t) (s := s5) su5 hll (by simp)).mono ?_
  rintro _ _ ⟨rfl, rfl⟩
  rw [e6]
  simp (disch := first | omega | (simp only [LL]; omega)) [WW]
  obtain ⟨⟨hi, s7⟩, e7⟩ : ∃ q, rd1 s6 = q := ⟨_, rfl⟩
  have su7 : s7.1 <:+ x :: t := by
    have := rd1_suf (b := x :: t) (s := s6) su6
    rwa [e7] at this
  refine (rbyte_spec (b := x :: t) (s := s6) su6 hll (by simp)).mono ?_
  rintro _ _ ⟨rfl, rfl⟩
  rw [e7]
  have bl := rd1_bound s5
  have bh := rd1_bound s6
  rw [e6] at bl
  rw [e7] at bh
  simp only at bl bh
  have sh := shl_nn hi 8 8 bh.1 rfl (by decide) (by omega)
  have wr1 : IntKind.i64.wrap (hi * 256) = hi * 256 := IntWalk.i64_in _ (by omega)
  have wr2 : IntKind.i64.wrap (lo + hi * 256) = lo + hi * 256 := IntWalk.i64_in _ (by omega)
  simp (disch := first | omega | (simp only [LL]; omega)) [WW, sh, wr1, wr2]
  obtain ⟨X, hX⟩ : ∃ X : Ms, X = ⟨10, fr, to, inc, yo, ⟨n1, n2, n3⟩, 0, 0, 0, zV, lo + hi * 256, false, 0, 0, []⟩ := ⟨_, rfl⟩
  obtain ⟨rem, bad⟩ := s7
  have hM : rdM (x :: t, false) = (X, (rem, bad)) := by
    rw [hX]
    simp [rdM, rdH, rdN, rdT, e0, e1, e2, e3, e4, e5, e6, e7, rdE, hk, hz]
  have hRR : readL (x :: t) = if bad = false ∧ rem = [] ∧ mayM X = true then (X, 0) else (zM, 40) := by rw [readL, if_neg h127, hM]
  have hXl : X.ws.length ≤ 1048576 := by
    rw [hX]
    simp
  clear hM
  cases bad with
  | true =>
    simp (disch := first | omega | (simp only [LL]; omega)) [WW, refB]
    simp [hRR, zM, zV, u8]
  | false =>
    cases rem with
    | cons q r =>
      have hne : ¬ ((t.length - r.length : Nat) : Int) = t.length + 1 := by omega
      simp (disch := first | omega | (simp only [LL]; omega)) [WW, refB, hne]
      simp [hRR, zM, zV, u8]
    | nil =>
      cases hm : mayM X
      · have hm' := hm
        rw [hX] at hm'
        simp (disch := first | omega | (simp only [LL]; omega)) [WW, refB, hm', hk, hz, hXl]
        simp [hRR, hm, zM, zV, u8]
      · have hm' := hm
        rw [hX] at hm'
        simp (disch := first | omega | (simp only [LL]; omega)) [WW, refB, hm', hk, hz, hXl]
        have hR2 : readL (x :: t) = (X, 0) := by rw [hRR, if_pos ⟨rfl, rfl, hm⟩]
        simp [hR2, hX, zV, u8]
set_option maxRecDepth 20000 in
theorem rr_4 {b : List UInt8} {x : UInt8} {t : List UInt8} (hk : (x.toNat : Int) = 4) (h127 : ¬ 127 < x.toNat) (hll : (x :: t).length ≤ 1000000) (hO : openA b = .tup [.sl .any (ofBytes (x :: t)), .bool true]) (hb : b.length ≤ 1000000) (st : St) : ASpec Try.prog 96 [.sl .any (ofBytes b)] st fun v st' => v = .tup [.agg (msC (readL (x :: t)).1), .int .i64 (readL (x :: t)).2] ∧ st' = st := by
  refine pure_of (R := fun v => v = _) T12s F96 rfl ?_
  have hx := x.toNat_lt
  have hz : (⟨0, 0, 0, 0, 0, 0, 0, 0⟩ : Vl) = zV := rfl
  have h2 : ¬ (t.length : Int) + 1 = 0 := by omega
  have h127' : ¬ (127 : Int) < x.toNat := by omega
  have hw : IntKind.i8.wrap (x.toNat : Int) = x.toNat := IntWalk.i8_in _ (by omega)
  have e0 : rd1 (x :: t, false) = ((x.toNat : Int), (t, false)) := rfl
  simp (disch := first | omega | (simp only [LL]; omega)) [WW, c96, hO, h2, h127']
  refine (rbyte_spec (b := x :: t) (s := (x :: t, false)) (List.suffix_refl _) hll (by simp [refB])).mono ?_
  rintro _ _ ⟨rfl, rfl⟩
  simp (disch := first | omega | (simp only [LL]; omega)) [WW, e0, hw]
  obtain ⟨⟨fr, s1⟩, e1⟩ : ∃ q, rd1 (t, false) = q := ⟨_, rfl⟩
  have su1 : s1.1 <:+ x :: t := by
    have := rd1_suf (b := x :: t) (s := (t, false)) (List.suffix_cons x t)
    rwa [e1] at this
  refine (rbyte_spec (b := x :: t) (s := (t, false)) (List.suffix_cons x t) hll (by simp)).mono ?_
  rintro _ _ ⟨rfl, rfl⟩
  rw [e1]
  simp (disch := first | omega | (simp only [LL]; omega)) [WW]
  obtain ⟨⟨to, s2⟩, e2⟩ : ∃ q, rd1 s1 = q := ⟨_, rfl⟩
  have su2 : s2.1 <:+ x :: t := by
    have := rd1_suf (b := x :: t) (s := s1) su1
    rwa [e2] at this
  refine (rbyte_spec (b := x :: t) (s := s1) su1 hll (by simp)).mono ?_
  rintro _ _ ⟨rfl, rfl⟩
  rw [e2]
  simp (disch := first | omega | (simp only [LL]; omega)) [WW]
  obtain ⟨⟨inc, s3⟩, e3⟩ : ∃ q, rd3 s2 = q := ⟨_, rfl⟩
  have su3 : s3.1 <:+ x :: t := by
    have := rd3_suf (b := x :: t) (s := s2) su2
    rwa [e3] at this
  refine (rthree_spec (b := x :: t) (s := s2) su2 hll (by simp)).mono ?_
  rintro _ _ ⟨rfl, rfl⟩
  rw [e3]
  simp (disch := first | omega | (simp only [LL]; omega)) [WW]
  obtain ⟨⟨yo, s4⟩, e4⟩ : ∃ q, rd3 s3 = q := ⟨_, rfl⟩
  have su4 : s4.1 <:+ x :: t := by
    have := rd3_suf (b := x :: t) (s := s3) su3
    rwa [e4] at this
  refine (rthree_spec (b := x :: t) (s := s3) su3 hll (by simp)).mono ?_
  rintro _ _ ⟨rfl, rfl⟩
  rw [e4]
  simp (disch := first | omega | (simp only [LL]; omega)) [WW]
  simp (disch := first | omega | (simp only [LL]; omega)) [WW, hk]
  obtain ⟨⟨⟨n1, n2, n3⟩, s5⟩, e5⟩ : ∃ q, rdNm s4 = q := ⟨_, rfl⟩
  have su5 : s5.1 <:+ x :: t := by
    have := rdNm_suf (b := x :: t) (s := s4) su4
    rwa [e5] at this
  refine (rname_spec (b := x :: t) (s := s4) su4 hll (by simp)).mono ?_
  rintro _ _ ⟨rfl, rfl⟩
  rw [e5]
  simp (disch := first | omega | (simp only [LL]; omega)) [WW]
  obtain ⟨⟨gv, s6⟩, e6⟩ : ∃ q, rd1 s5 = q := ⟨_, rfl⟩
  have su6 : s6.1 <:+ x :: t := by
    have := rd1_suf (b := x :: t) (s := s5) su5
    rwa [e6] at this
  refine (rbyte_spec (b := x :: t) (s := s5) su5 hll (by simp)).mono ?_
  rintro _ _ ⟨rfl, rfl⟩
  rw [e6]
  simp (disch := first | omega | (simp only [LL]; omega)) [WW]
  obtain ⟨⟨tv, s7⟩, e7⟩ : ∃ q, rd1 s6 = q := ⟨_, rfl⟩
  have su7 : s7.1 <:+ x :: t := by
    have := rd1_suf (b := x :: t) (s := s6) su6
    rwa [e7] at this
  refine (rbyte_spec (b := x :: t) (s := s6) su6 hll (by simp)).mono ?_
  rintro _ _ ⟨rfl, rfl⟩
  rw [e7]
  simp (disch := first | omega | (simp only [LL]; omega)) [WW]
  obtain ⟨⟨ws, s8⟩, e8⟩ : ∃ q, rdWr s7 = q := ⟨_, rfl⟩
  have su8 : s8.1 <:+ x :: t := by
    have := rdWr_suf (b := x :: t) (s := s7) su7
    rwa [e8] at this
  refine (rwrites_spec (b := x :: t) (s := s7) su7 hll (by simp)).mono ?_
  rintro _ _ ⟨rfl, rfl⟩
  rw [e8]
  simp (disch := first | omega | (simp only [LL]; omega)) [WW]
  obtain ⟨X, hX⟩ : ∃ X : Ms, X = ⟨4, fr, to, inc, yo, ⟨n1, n2, n3⟩, 0, 0, 0, zV, 0, false, gv, tv, ws⟩ := ⟨_, rfl⟩
  obtain ⟨rem, bad⟩ := s8
  have hM : rdM (x :: t, false) = (X, (rem, bad)) := by
    rw [hX]
    simp [rdM, rdH, rdN, rdT, e0, e1, e2, e3, e4, e5, e6, e7, e8, hk, hz]
  have hRR : readL (x :: t) = if bad = false ∧ rem = [] ∧ mayM X = true then (X, 0) else (zM, 40) := by rw [readL, if_neg h127, hM]
  have hXl : X.ws.length ≤ 1048576 := by
    rw [hX]
    have := rdWr_len s7
    rw [e8] at this
    simp only at this ⊢
    omega
  have hXw : ws.length ≤ 1048576 := by rw [hX] at hXl; exact hXl
  clear hM
  cases bad with
  | true =>
    simp (disch := first | omega | (simp only [LL]; omega)) [WW, refB]
    simp [hRR, zM, zV, u8]
  | false =>
    cases rem with
    | cons q r =>
      have hne : ¬ ((t.length - r.length : Nat) : Int) = t.length + 1 := by omega
      simp (disch := first | omega | (simp only [LL]; omega)) [WW, refB, hne]
      simp [hRR, zM, zV, u8]
    | nil =>
      cases hm : mayM X
      · have hm' := hm
        rw [hX] at hm'
        simp (disch := first | omega | (simp only [LL]; omega)) [WW, refB, hm', hk, hz, hXl]
        simp [hRR, hm, zM, zV, u8]
      · have hm' := hm
        rw [hX] at hm'
        simp (disch := first | omega | (simp only [LL]; omega)) [WW, refB, hm', hk, hz, hXl]
        have hR2 : readL (x :: t) = (X, 0) := by rw [hRR, if_pos ⟨rfl, rfl, hm⟩]
        simp [hR2, hX, zV, u8]
set_option maxRecDepth 20000 in
theorem rr_3 {b : List UInt8} {x : UInt8} {t : List UInt8} (hk : (x.toNat : Int) = 3) (h127 : ¬ 127 < x.toNat) (hll : (x :: t).length ≤ 1000000) (hO : openA b = .tup [.sl .any (ofBytes (x :: t)), .bool true]) (hb : b.length ≤ 1000000) (st : St) : ASpec Try.prog 96 [.sl .any (ofBytes b)] st fun v st' => v = .tup [.agg (msC (readL (x :: t)).1), .int .i64 (readL (x :: t)).2] ∧ st' = st := by
  refine pure_of (R := fun v => v = _) T12s F96 rfl ?_
  have hx := x.toNat_lt
  have hz : (⟨0, 0, 0, 0, 0, 0, 0, 0⟩ : Vl) = zV := rfl
  have h2 : ¬ (t.length : Int) + 1 = 0 := by omega
  have h127' : ¬ (127 : Int) < x.toNat := by omega
  have hw : IntKind.i8.wrap (x.toNat : Int) = x.toNat := IntWalk.i8_in _ (by omega)
  have e0 : rd1 (x :: t, false) = ((x.toNat : Int), (t, false)) := rfl
  simp (disch := first | omega | (simp only [LL]; omega)) [WW, c96, hO, h2, h127']
  refine (rbyte_spec (b := x :: t) (s := (x :: t, false)) (List.suffix_refl _) hll (by simp [refB])).mono ?_
  rintro _ _ ⟨rfl, rfl⟩
  simp (disch := first | omega | (simp only [LL]; omega)) [WW, e0, hw]
  obtain ⟨⟨fr, s1⟩, e1⟩ : ∃ q, rd1 (t, false) = q := ⟨_, rfl⟩
  have su1 : s1.1 <:+ x :: t := by
    have := rd1_suf (b := x :: t) (s := (t, false)) (List.suffix_cons x t)
    rwa [e1] at this
  refine (rbyte_spec (b := x :: t) (s := (t, false)) (List.suffix_cons x t) hll (by simp)).mono ?_
  rintro _ _ ⟨rfl, rfl⟩
  rw [e1]
  simp (disch := first | omega | (simp only [LL]; omega)) [WW]
  obtain ⟨⟨to, s2⟩, e2⟩ : ∃ q, rd1 s1 = q := ⟨_, rfl⟩
  have su2 : s2.1 <:+ x :: t := by
    have := rd1_suf (b := x :: t) (s := s1) su1
    rwa [e2] at this
  refine (rbyte_spec (b := x :: t) (s := s1) su1 hll (by simp)).mono ?_
  rintro _ _ ⟨rfl, rfl⟩
  rw [e2]
  simp (disch := first | omega | (simp only [LL]; omega)) [WW]
  obtain ⟨⟨inc, s3⟩, e3⟩ : ∃ q, rd3 s2 = q := ⟨_, rfl⟩
  have su3 : s3.1 <:+ x :: t := by
    have := rd3_suf (b := x :: t) (s := s2) su2
    rwa [e3] at this
  refine (rthree_spec (b := x :: t) (s := s2) su2 hll (by simp)).mono ?_
  rintro _ _ ⟨rfl, rfl⟩
  rw [e3]
  simp (disch := first | omega | (simp only [LL]; omega)) [WW]
  obtain ⟨⟨yo, s4⟩, e4⟩ : ∃ q, rd3 s3 = q := ⟨_, rfl⟩
  have su4 : s4.1 <:+ x :: t := by
    have := rd3_suf (b := x :: t) (s := s3) su3
    rwa [e4] at this
  refine (rthree_spec (b := x :: t) (s := s3) su3 hll (by simp)).mono ?_
  rintro _ _ ⟨rfl, rfl⟩
  rw [e4]
  simp (disch := first | omega | (simp only [LL]; omega)) [WW]
  simp (disch := first | omega | (simp only [LL]; omega)) [WW, hk]
  obtain ⟨⟨⟨n1, n2, n3⟩, s5⟩, e5⟩ : ∃ q, rdNm s4 = q := ⟨_, rfl⟩
  have su5 : s5.1 <:+ x :: t := by
    have := rdNm_suf (b := x :: t) (s := s4) su4
    rwa [e5] at this
  refine (rname_spec (b := x :: t) (s := s4) su4 hll (by simp)).mono ?_
  rintro _ _ ⟨rfl, rfl⟩
  rw [e5]
  simp (disch := first | omega | (simp only [LL]; omega)) [WW]
  obtain ⟨⟨nv, s6⟩, e6⟩ : ∃ q, rd3 s5 = q := ⟨_, rfl⟩
  have su6 : s6.1 <:+ x :: t := by
    have := rd3_suf (b := x :: t) (s := s5) su5
    rwa [e6] at this
  refine (rthree_spec (b := x :: t) (s := s5) su5 hll (by simp)).mono ?_
  rintro _ _ ⟨rfl, rfl⟩
  rw [e6]
  simp (disch := first | omega | (simp only [LL]; omega)) [WW]
  obtain ⟨v0, h0⟩ : ∃ v, rdB 0 s6 = v := ⟨_, rfl⟩
  obtain ⟨v1, h1⟩ : ∃ v, rdB 1 s6 = v := ⟨_, rfl⟩
  obtain ⟨v2, h2v⟩ : ∃ v, rdB 2 s6 = v := ⟨_, rfl⟩
  obtain ⟨v3, h3⟩ : ∃ v, rdB 3 s6 = v := ⟨_, rfl⟩
  obtain ⟨v4, h4⟩ : ∃ v, rdB 4 s6 = v := ⟨_, rfl⟩
  obtain ⟨v5, h5⟩ : ∃ v, rdB 5 s6 = v := ⟨_, rfl⟩
  obtain ⟨v6, h6⟩ : ∃ v, rdB 6 s6 = v := ⟨_, rfl⟩
  obtain ⟨v7, h7⟩ : ∃ v, rdB 7 s6 = v := ⟨_, rfl⟩
  obtain ⟨s7, e7⟩ : ∃ q, rdn 8 s6 = q := ⟨_, rfl⟩
  have su7 : s7.1 <:+ x :: t := by
    have := rdn_suf (b := x :: t) (s := s6) su6 8
    rwa [e7] at this
  refine (rvalue_spec (b := x :: t) (s := s6) su6 hll (by simp)).mono ?_
  rintro _ _ ⟨rfl, rfl⟩
  rw [e7, h0, h1, h2v, h3, h4, h5, h6, h7]
  simp (disch := first | omega | (simp only [LL]; omega)) [WW]
  obtain ⟨⟨lo, s8⟩, e8⟩ : ∃ q, rd1 s7 = q := ⟨_, rfl⟩
  have su8 : s8.1 <:+ x :: t := by
    have := rd1_suf (b := x :: t) (s := s7) su7
    rwa [e8] at this
  refine (rbyte_spec (b := x :: t) (s := s7) su7 hll (by simp)).mono ?_
  rintro _ _ ⟨rfl, rfl⟩
  rw [e8]
  simp (disch := first | omega | (simp only [LL]; omega)) [WW]
  obtain ⟨⟨hi, s9⟩, e9⟩ : ∃ q, rd1 s8 = q := ⟨_, rfl⟩
  have su9 : s9.1 <:+ x :: t := by
    have := rd1_suf (b := x :: t) (s := s8) su8
    rwa [e9] at this
  refine (rbyte_spec (b := x :: t) (s := s8) su8 hll (by simp)).mono ?_
  rintro _ _ ⟨rfl, rfl⟩
  rw [e9]
  have bl := rd1_bound s7
  have bh := rd1_bound s8
  rw [e8] at bl
  rw [e9] at bh
  simp only at bl bh
  have sh := shl_nn hi 8 8 bh.1 rfl (by decide) (by omega)
  have wr1 : IntKind.i64.wrap (hi * 256) = hi * 256 := IntWalk.i64_in _ (by omega)
  have wr2 : IntKind.i64.wrap (lo + hi * 256) = lo + hi * 256 := IntWalk.i64_in _ (by omega)
  simp (disch := first | omega | (simp only [LL]; omega)) [WW, sh, wr1, wr2]
  obtain ⟨X, hX⟩ : ∃ X : Ms, X = ⟨3, fr, to, inc, yo, ⟨n1, n2, n3⟩, nv, 0, 0, ⟨v0, v1, v2, v3, v4, v5, v6, v7⟩, lo + hi * 256, false, 0, 0, []⟩ := ⟨_, rfl⟩
  obtain ⟨rem, bad⟩ := s9
  have hM : rdM (x :: t, false) = (X, (rem, bad)) := by
    rw [hX]
    simp [rdM, rdH, rdN, rdT, e0, e1, e2, e3, e4, e5, e6, e7, e8, e9, rdE, h0, h1, h2v, h3, h4, h5, h6, h7, rdV, hk, hz]
  have hRR : readL (x :: t) = if bad = false ∧ rem = [] ∧ mayM X = true then (X, 0) else (zM, 40) := by rw [readL, if_neg h127, hM]
  have hXl : X.ws.length ≤ 1048576 := by
    rw [hX]
    simp
  clear hM
  cases bad with
  | true =>
    simp (disch := first | omega | (simp only [LL]; omega)) [WW, refB]
    simp [hRR, zM, zV, u8]
  | false =>
    cases rem with
    | cons q r =>
      have hne : ¬ ((t.length - r.length : Nat) : Int) = t.length + 1 := by omega
      simp (disch := first | omega | (simp only [LL]; omega)) [WW, refB, hne]
      simp [hRR, zM, zV, u8]
    | nil =>
      cases hm : mayM X
      · have hm' := hm
        rw [hX] at hm'
        simp (disch := first | omega | (simp only [LL]; omega)) [WW, refB, hm', hk, hz, hXl]
        simp [hRR, hm, zM, zV, u8]
      · have hm' := hm
        rw [hX] at hm'
        simp (disch := first | omega | (simp only [LL]; omega)) [WW, refB, hm', hk, hz, hXl]
        have hR2 : readL (x :: t) = (X, 0) := by rw [hRR, if_pos ⟨rfl, rfl, hm⟩]
        simp [hR2, hX, zV, u8]
end Go.Proofs.Ytjceilhmgbdgiaa

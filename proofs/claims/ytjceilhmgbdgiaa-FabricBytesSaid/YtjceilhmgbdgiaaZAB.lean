/- Messages: what the program reads. -/
import Derived.Test.YtjceilhmgbdgiaaZAC
set_option linter.all false
namespace Go.Proofs.Ytjceilhmgbdgiaa
open Go.Am

def mP (st : St) (xb r : Blk) (g : List Blk) : List Blk := st.heap ++ (xb :: r :: g)
def PI (fs : List Fd) (x0 : Ms) (s0 : RS) (st : St) (j : Nat) (env : Env) (s : St) : Prop :=
  ∃ i g tk fl x σ gt, j + i = fs.length ∧ env 2 = .ptr st.heap.length 0 ∧ env 6 = .ptr (st.heap.length + 1) 0 ∧ env 58 = .sl .clip (fds fs) ∧ env 59 = .int .i64 fs.length ∧ env 60 = .int .i64 i ∧
    s = ⟨mP st (mBt tk x) (gF fl σ) g, st.toks ++ gt⟩ ∧ fOk fl σ ∧ σ.1.length ≤ 1000000 ∧ x.ws.length ≤ 255 ∧ (i < fs.length → tk = .clip ∧ x.ws = []) ∧ getsP fs x0 s0 = getsP (fs.drop i) x σ
set_option maxRecDepth 20000 in
theorem read_many {b : List UInt8} {x : UInt8} {t : List UInt8} (h127 : ¬ 127 < x.toNat) (hll : t.length ≤ 1000000) (hO : openA b = .tup [.sl .any (ofBytes (x :: t)), .bool true]) (hb : b.length ≤ 1000000) (st : St) : ASpec Try.prog 146 [.sl .any (ofBytes b)] st fun v st' => v = .tup [.agg (msC (readQ (x :: t)).1), .int .i64 (readQ (x :: t)).2] ∧ st' = st := by
  refine pure_of (R := fun v => v = _) T12s F146 rfl ?_
  have hx := x.toNat_lt
  have h2 : ¬ (t.length : Int) + 1 = 0 := by omega
  have h127' : ¬ (127 : Int) < x.toNat := by omega
  have hw : IntKind.i8.wrap (x.toNat : Int) = x.toNat := IntWalk.i8_in _ (by omega)
  have hM : ∀ t m, mBt t m = .cells false [.int .i8 m.kind, .int .i64 m.fr, .int .i64 m.to, .int .i64 m.inc, .int .i64 m.your, .int .i64 m.nm.stamp, .int .i64 m.nm.inc, .int .i64 m.nm.tr, .int .i64 m.n, .int .i8 m.op, .int .i64 m.block, u8 m.val.v0, u8 m.val.v1, u8 m.val.v2, u8 m.val.v3, u8 m.val.v4, u8 m.val.v5, u8 m.val.v6, u8 m.val.v7, .int .i64 m.e, .bool m.yes, .int .i64 m.give, .int .i64 m.take, .sl t (wrs m.ws)] := fun _ _ => rfl
  have hG : ∀ f s, gF f s = .cells false [.sl (if f then .clip else .any) (ofBytes s.1), .bool s.2] := fun _ _ => rfl
  have hQ : readQ (x :: t) = endP (getsP (fieldsOf x.toNat) (headP x.toNat (t, false)) (headS (t, false))) := by rw [readQ, if_neg h127]
  simp (disch := first | omega | assumption | (simp only [LL]; omega)) [WW, c146, hO, h2, h127']
  refine ⟨by omega, ?_⟩
  refine region_vals [183] [] [] [0, 1, 2, 3, 4, 6, 5, 7, 8, 9, 10, 11, 12, 13] (by decide +kernel) ?_
  simp (disch := first | omega | assumption | (simp only [LL]; omega)) [WW, hw, u8]
  obtain ⟨⟨fr, s1⟩, e1⟩ : ∃ q, numP 1 (t, false) = q := ⟨_, rfl⟩
  have l1 : s1.1.length ≤ t.length := by have := numP_len 1 (t, false); rwa [e1] at this
  refine (num_gen (n := 1) (f := false) (s := (t, false)) (by simp) (fOk_false _) hll (by simp [hG])).mono ?_
  rintro _ _ ⟨rfl, ⟨f1, hf1, rfl⟩⟩
  rw [e1] at hf1 ⊢
  simp (disch := first | omega | assumption | (simp only [LL]; omega)) [WW]
  obtain ⟨⟨to, s2⟩, e2⟩ : ∃ q, numP 1 s1 = q := ⟨_, rfl⟩
  have l2 : s2.1.length ≤ t.length := by have := numP_len 1 s1; rw [e2] at this; simp only at this; omega
  refine (num_gen (n := 1) (f := f1) (s := s1) (by simp) hf1 (by omega) (by simp)).mono ?_
  rintro _ _ ⟨rfl, ⟨f2, hf2, rfl⟩⟩
  rw [e2] at hf2 ⊢
  simp (disch := first | omega | assumption | (simp only [LL]; omega)) [WW]
  obtain ⟨⟨inc, s3⟩, e3⟩ : ∃ q, numP 3 s2 = q := ⟨_, rfl⟩
  have l3 : s3.1.length ≤ t.length := by have := numP_len 3 s2; rw [e3] at this; simp only at this; omega
  refine (num_gen (n := 3) (f := f2) (s := s2) (by simp) hf2 (by omega) (by simp)).mono ?_
  rintro _ _ ⟨rfl, ⟨f3, hf3, rfl⟩⟩
  rw [e3] at hf3 ⊢
  simp (disch := first | omega | assumption | (simp only [LL]; omega)) [WW]
  obtain ⟨⟨yo, s4⟩, e4⟩ : ∃ q, numP 3 s3 = q := ⟨_, rfl⟩
  have l4 : s4.1.length ≤ t.length := by have := numP_len 3 s3; rw [e4] at this; simp only at this; omega
  refine (num_gen (n := 3) (f := f3) (s := s3) (by simp) hf3 (by omega) (by simp)).mono ?_
  rintro _ _ ⟨rfl, ⟨f4, hf4, rfl⟩⟩
  rw [e4] at hf4 ⊢
  have hH : headP x.toNat (t, false) = ⟨x.toNat, fr, to, inc, yo, ⟨0, 0, 0⟩, 0, 0, 0, zV, 0, false, 0, 0, []⟩ := by
    simp only [headP, headS0, e1, e2, e3, e4]
  have hS : headS (t, false) = s4 := by
    simp only [headS, headS0, e1, e2, e3, e4]
  rw [hH, hS] at hQ
  clear hH hS e1 e2 e3 e4
  simp (disch := first | omega | assumption | (simp only [LL]; omega)) [WW]
  obtain ⟨fs, hfs⟩ : ∃ fs, fieldsOf x.toNat = fs := ⟨_, rfl⟩
  rw [hfs] at hQ
  have hfw := (fields_form x.toNat).2.2
  have hf5 := (fields_form x.toNat).2.1
  simp only [hfs] at hfw hf5
  by_cases hk : 1 ≤ (x.toNat : Int) ∧ (x.toNat : Int) ≤ 11
  case' pos =>
    refine (kind_spec x.toNat hk _).mono ?_
    rintro _ _ ⟨rfl, k1, k2, rfl⟩
    rw [hfs]
    obtain ⟨g0, hg0⟩ : ∃ g0 : List Blk, g0 = [k1, k2, .cells false [fnA 172], .cells false [.bool (downK x.toNat), .sl .clip (fds fs), suchV x.toNat (st.heap.length + 2 + 2)]] := ⟨_, rfl⟩
    simp (disch := first | omega | assumption | (simp only [LL]; omega)) [WW]
  case' neg =>
    have hf0 : fs = [] := by
      rw [← hfs]
      unfold fieldsOf
      repeat' split
      all_goals first | omega | rfl
    refine (kind_no x.toNat hk _).mono ?_
    rintro _ _ ⟨rfl, k1, k2, rfl⟩
    obtain ⟨g0, hg0⟩ : ∃ g0 : List Blk, g0 = [k1, k2, .cells false [fnA 172], .cells false [.bool false, .sl .clip [], .nilfn]] := ⟨_, rfl⟩
    simp (disch := first | omega | assumption | (simp only [LL]; omega)) [WW]
  all_goals
    refine awC_loopW (PI fs ⟨x.toNat, fr, to, inc, yo, ⟨0, 0, 0⟩, 0, 0, 0, zV, 0, false, 0, 0, []⟩ s4 st) fs.length ?_ ?_
    · refine ⟨0, g0, .clip, f4, ⟨x.toNat, fr, to, inc, yo, ⟨0, 0, 0⟩, 0, 0, 0, zV, 0, false, 0, 0, []⟩, s4, [], rfl, by simp, by simp, by simp [*, fds], by simp [*], by simp, ?_, hf4, by omega, by simp, fun _ => ⟨rfl, rfl⟩, rfl⟩
      rw [hg0]
      simp [mP, mBt, zV, u8]
    clear hg0 hf1 hf2 hf3 hf4
    rintro j env s ⟨i, g, tk, fl, y, σ, gt, hj, q2, q6, q58, q59, q60, rfl, hfl, hσ, hws, hcl, hgets⟩
    obtain ⟨rem, bad⟩ := σ
    have hyl : y.ws.length ≤ 1048576 := by omega
    rw [hgets] at hQ
    by_cases hi : i < fs.length
    · obtain ⟨rfl, hx⟩ := hcl hi
      have hi' : (i : Int) < fs.length := by omega
      cases bad with
      | true =>
        rw [getsP_bad _ _ rfl, endP_bad rfl] at hQ
        simp (disch := first | omega | assumption | (simp only [LL]; omega)) [WW, q2, q6, q58, q59, q60, hi', hi, fdA, -putV, -getV, mP, hG, hM]
        simp [hQ, zM, zV, u8]
      | false =>
        simp (disch := first | omega | assumption | (simp only [LL]; omega)) [WW, q2, q6, q58, q59, q60, hi', hi, fdA, -putV, -getV, mP, hG]
        have hdr := getsP_drop hi y (s := (rem, false)) rfl
        rw [hdr] at hQ
        have hgl := getP_len fs[i] y (rem, false)
        have hpw := getP_wsl (f := fs[i]) (s := (rem, false)) hx
        refine getp_call (f := fs[i]) (x := y) (s := (rem, false)) (f0 := fl) rfl hx hσ ?_ hfl ?_ ?_ ?_
        · simp
        · simp [hG]
        · simp
        rintro tk' fl' g' gt' hfl' htk
        simp (disch := first | omega | assumption | (simp only [LL]; omega)) [WW, q2, q6, q58, q59, q60, -putV, -getV]
        have hσ' : rem.length ≤ 1000000 := hσ
        simp only at hgl
        refine ⟨j - 1, by omega, i + 1, g ++ .cells false [putV fs[i], getV fs[i]] :: g', tk', fl', (getP fs[i] y (rem, false)).1, (getP fs[i] y (rem, false)).2, gt ++ gt', by omega, by simp [q2], by simp [q6], by simp [q58], by simp [q59], by simp, by simp [mP, -putV, -getV], hfl', by omega, hpw, ?_, by rw [hgets, hdr]⟩
        intro hlt
        have hne := hfw i hlt
        exact ⟨htk hne, by rw [getP_ws hne, hx]⟩
    · have hi' : ¬ (i : Int) < fs.length := by omega
      rw [List.drop_of_length_le (by omega)] at hQ
      have hQ' : readQ (x :: t) = endP (y, (rem, bad)) := hQ
      clear hQ hcl hgets
      cases bad with
      | true =>
        rw [endP_bad rfl] at hQ'
        simp (disch := first | omega | assumption | (simp only [LL]; omega)) [WW, q2, q6, q58, q59, q60, hi', hi, mP, hG, hM]
        simp [hQ', zM, zV, u8]
      | false =>
        cases rem with
        | cons q r =>
          have hQ2 : readQ (x :: t) = (zM, 40) := by rw [hQ', endP, if_neg (by simp)]
          simp (disch := first | omega | assumption | (simp only [LL]; omega)) [WW, q2, q6, q58, q59, q60, hi', hi, mP, hG, hM]
          simp [hQ2, zM, zV, u8]
        | nil =>
          cases hm : mayM y with
          | false =>
            have hQ2 : readQ (x :: t) = (zM, 40) := by rw [hQ', endP, if_neg (by simp [hm])]
            simp (disch := first | omega | assumption | (simp only [LL]; omega)) [WW, q2, q6, q58, q59, q60, hi', hi, mP, hG, hM, hm, hyl]
            simp [hQ2, zM, zV, u8]
          | true =>
            have hQ2 : readQ (x :: t) = (y, 0) := by rw [hQ', endP, if_pos (by simp [hm])]
            simp (disch := first | omega | assumption | (simp only [LL]; omega)) [WW, q2, q6, q58, q59, q60, hi', hi, mP, hG, hM, hm, hyl]
            simp [hQ2, u8]
theorem read_spec (b : List UInt8) (hb : b.length ≤ 1000000) (st : St) : ASpec Try.prog 146 [.sl .any (ofBytes b)] st fun v st' => v = .tup [.agg (msC (readM b).1), .int .i64 (readM b).2] ∧ st' = st := by
  by_cases hc : 4 ≤ b.length ∧ crcB (crc (b.take (b.length - 4))) = b.drop (b.length - 4)
  case neg =>
    refine pure_of (R := fun v => v = _) T12s F146 rfl ?_
    have hO : openA b = .tup [.sl .any [], .bool false] := by rw [openA, if_neg hc]
    simp (disch := first | omega | assumption | (simp only [LL]; omega)) [WW, c146, hO]
    simp [readM, hc, zM, zV, u8]
  have hO : openA b = .tup [.sl .any (ofBytes (b.take (b.length - 4))), .bool true] := by rw [openA, if_pos hc]
  obtain ⟨l, hl⟩ : ∃ l, b.take (b.length - 4) = l := ⟨_, rfl⟩
  have hll : l.length ≤ 1000000 := by rw [← hl]; simp; omega
  have hRR : readM b = readL l := by rw [readM, if_pos hc, hl]
  rw [hl] at hO
  rw [hRR, ← readQ_eq]
  clear hl hc hRR
  cases l with
  | nil =>
    refine pure_of (R := fun v => v = _) T12s F146 rfl ?_
    simp (disch := first | omega | assumption | (simp only [LL]; omega)) [WW, c146, hO]
    simp [readQ, zM, zV, u8]
  | cons x t =>
    have hx := x.toNat_lt
    have h2 : ¬ (t.length : Int) + 1 = 0 := by omega
    by_cases h127 : 127 < x.toNat
    · refine pure_of (R := fun v => v = _) T12s F146 rfl ?_
      have h127' : (127 : Int) < x.toNat := by omega
      simp (disch := first | omega | assumption | (simp only [LL]; omega)) [WW, c146, hO, h2, h127']
      simp [readQ, h127, zM, zV, u8]
    exact read_many h127 (by simp at hll; omega) hO hb st
noncomputable def T15 : Orc := T12.add 96 (tab (fun x : List UInt8 => [.sl .any (ofBytes x)]) (fun x => .tup [.agg (msC (readM x).1), .int .i64 (readM x).2]) fun x => x.length ≤ 1000000)
theorem T15s : OSound Try.prog T15 := T12s.tab fun x h st => rread_spec x h st
@[simp] theorem T15_96 (b : List UInt8) (h : b.length ≤ 1000000) : T15 96 [.sl .any (ofBytes b)] = some (.tup [.agg (msC (readM b).1), .int .i64 (readM b).2]) := by
  rw [T15, Orc.add_same]
  exact tab_eq (fun x y h => by simp at h; simp [h]) (x := (b)) h
@[simp] theorem T15_o (f : Nat) (args : List AV) (h : f ≠ 96) : T15 f args = T12 f args := by
  rw [T15, Orc.add_other _ _ _ _ _ h]
noncomputable def T16 : Orc := T15.add 146 (tab (fun x : List UInt8 => [.sl .any (ofBytes x)]) (fun x => .tup [.agg (msC (readM x).1), .int .i64 (readM x).2]) fun x => x.length ≤ 1000000)
theorem T16s : OSound Try.prog T16 := T15s.tab fun x h st => read_spec x h st
@[simp] theorem T16_146 (b : List UInt8) (h : b.length ≤ 1000000) : T16 146 [.sl .any (ofBytes b)] = some (.tup [.agg (msC (readM b).1), .int .i64 (readM b).2]) := by
  rw [T16, Orc.add_same]
  exact tab_eq (fun x y h => by simp at h; simp [h]) (x := (b)) h
@[simp] theorem T16_o (f : Nat) (args : List AV) (h : f ≠ 146) : T16 f args = T15 f args := by
  rw [T16, Orc.add_other _ _ _ _ _ h]
end Go.Proofs.Ytjceilhmgbdgiaa

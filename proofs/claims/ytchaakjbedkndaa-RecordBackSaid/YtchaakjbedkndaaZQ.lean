/- Records: the program's bytes, sectors. -/
import Derived.Test.YtchaakjbedkndaaZP
set_option linter.all false
namespace Go.Proofs.Ytchaakjbedkndaa
open Go.Am

theorem bytes_spec (r : Rc) (hb : -128 ≤ r.kind ∧ r.kind ≤ 127) (hl : r.ws.length ≤ 1048576) (st : St) : ASpec Try.prog 13 [.agg (rcC r)] st fun v st' => v = .tup [.sl .any (ofBytes (bytesR r).1), .int .i64 (bytesR r).2] ∧ st' = st := by
  refine pure_of (R := fun v => v = _) C5s F13 rfl ?_
  simp (disch := first | omega | (simp only [List.length_take, List.length_drop, List.length_append, List.length_cons, List.length_nil, List.length_map]; omega)) [IntWalk.i64_in, IntWalk.i64_quo, c13]
  cases hm : mayR r with
  | false =>
    simp (disch := first | omega | (simp only [List.length_take, List.length_drop, List.length_append, List.length_cons, List.length_nil, List.length_map]; omega)) [IntWalk.i64_in, IntWalk.i64_quo]
    simp [bytesR, hm]
  | true =>
    have hs := hm
    rw [may_such] at hs
    simp only [Bool.and_eq_true, decide_eq_true_eq] at hs
    simp (disch := first | omega | (simp only [List.length_take, List.length_drop, List.length_append, List.length_cons, List.length_nil, List.length_map]; omega)) [IntWalk.i64_in, IntWalk.i64_quo]
    refine region_state [] [26, 33] [0, 1, 2, 3, 4, 5, 6, 7, 8, 9, 10] (by decide +kernel) ?_
    simp (disch := first | omega | (simp only [List.length_take, List.length_drop, List.length_append, List.length_cons, List.length_nil, List.length_map]; omega)) [IntWalk.i64_in, IntWalk.i64_quo]
    refine (of_some r.kind hs.1.1 _).mono ?_
    rintro _ _ ⟨rfl, rfl⟩
    refine ⟨fun _ => ⟨by simp, by simp⟩, ?_⟩
    simp (disch := first | omega | (simp only [List.length_take, List.length_drop, List.length_append, List.length_cons, List.length_nil, List.length_map]; omega)) [IntWalk.i64_in, IntWalk.i64_quo]
    refine (body_spec (r := r) hs.1.1 hs.1.2 (by simp) (by simp [rB])).mono ?_
    rintro _ _ ⟨rfl, rfl⟩
    refine ⟨fun _ => ⟨List.prefix_refl _, List.prefix_refl _⟩, ?_⟩
    have hp := put_len hs.1.2
    simp (disch := first | omega | (simp only [List.length_take, List.length_drop, List.length_append, List.length_cons, List.length_nil, List.length_map]; omega)) [IntWalk.i64_in, IntWalk.i64_quo]
    exact ⟨by omega, by simp [bytesR, hm, recB_put], by simp [bytesR, hm]⟩
noncomputable def C6 : Orc := C5.add 13 (tab (fun x : Int × Int × Int × Int × Bool × List Wr × Int × Int × Int × Int × Int × Int => [.agg [.int .i8 x.1, .int .i64 x.2.1, .int .i64 x.2.2.1, .int .i64 x.2.2.2.1, .bool x.2.2.2.2.1, .sl .any (wrs x.2.2.2.2.2.1), .int .i64 x.2.2.2.2.2.2.1, .int .i64 x.2.2.2.2.2.2.2.1, .int .i64 x.2.2.2.2.2.2.2.2.1, .int .i64 x.2.2.2.2.2.2.2.2.2.1, .int .i64 x.2.2.2.2.2.2.2.2.2.2.1, .int .i64 x.2.2.2.2.2.2.2.2.2.2.2]]) (fun x => .tup [.sl .any (ofBytes (bytesR ⟨x.1, ⟨x.2.1, x.2.2.1, x.2.2.2.1⟩, x.2.2.2.2.1, x.2.2.2.2.2.1, x.2.2.2.2.2.2.1, x.2.2.2.2.2.2.2.1, x.2.2.2.2.2.2.2.2.1, x.2.2.2.2.2.2.2.2.2.1, x.2.2.2.2.2.2.2.2.2.2.1, x.2.2.2.2.2.2.2.2.2.2.2⟩).1), .int .i64 (bytesR ⟨x.1, ⟨x.2.1, x.2.2.1, x.2.2.2.1⟩, x.2.2.2.2.1, x.2.2.2.2.2.1, x.2.2.2.2.2.2.1, x.2.2.2.2.2.2.2.1, x.2.2.2.2.2.2.2.2.1, x.2.2.2.2.2.2.2.2.2.1, x.2.2.2.2.2.2.2.2.2.2.1, x.2.2.2.2.2.2.2.2.2.2.2⟩).2]) fun x => (-128 ≤ x.1 ∧ x.1 ≤ 127) ∧ x.2.2.2.2.2.1.length ≤ 1048576)
theorem C6s : OSound Try.prog C6 := C5s.tab fun x h st => bytes_spec ⟨x.1, ⟨x.2.1, x.2.2.1, x.2.2.2.1⟩, x.2.2.2.2.1, x.2.2.2.2.2.1, x.2.2.2.2.2.2.1, x.2.2.2.2.2.2.2.1, x.2.2.2.2.2.2.2.2.1, x.2.2.2.2.2.2.2.2.2.1, x.2.2.2.2.2.2.2.2.2.2.1, x.2.2.2.2.2.2.2.2.2.2.2⟩ h.1 h.2 st
@[simp] theorem C6_13 (a : Int) (b : Int) (c : Int) (d : Int) (e : Bool) (f : List Wr) (g : Int) (h' : Int) (i : Int) (j : Int) (k : Int) (l : Int) (h : (-128 ≤ a ∧ a ≤ 127) ∧ f.length ≤ 1048576) : C6 13 [.agg [.int .i8 a, .int .i64 b, .int .i64 c, .int .i64 d, .bool e, .sl .any (wrs f), .int .i64 g, .int .i64 h', .int .i64 i, .int .i64 j, .int .i64 k, .int .i64 l]] = some (.tup [.sl .any (ofBytes (bytesR ⟨a, ⟨b, c, d⟩, e, f, g, h', i, j, k, l⟩).1), .int .i64 (bytesR ⟨a, ⟨b, c, d⟩, e, f, g, h', i, j, k, l⟩).2]) := by
  rw [C6, Orc.add_same]
  exact tab_eq (fun x y h => by simp at h; simp [h]) (x := (a, b, c, d, e, f, g, h', i, j, k, l)) h
@[simp] theorem C6_o (f : Nat) (args : List AV) (h : f ≠ 13) : C6 f args = C5 f args := by
  rw [C6, Orc.add_other _ _ _ _ _ h]
theorem bytesR_len (r : Rc) : (bytesR r).1.length ≤ 90 := by
  unfold bytesR
  split
  · rename_i h
    rw [may_such] at h
    simp only [Bool.and_eq_true, decide_eq_true_eq] at h
    have hw : r.ws.length ≤ 8 := by
      by_cases h12 : r.kind = 1 ∨ r.kind = 2
      · have hs := h.1.2
        unfold suchR at hs
        rcases h12 with h12 | h12 <;> simp [h12] at hs
        · exact written_len hs.2
        · exact written_len hs.2.1
      · have hf := h.2
        have : (fieldsR r).ws = [] := by
          unfold fieldsR
          rw [if_neg (by omega), if_neg (by omega)]
          repeat' split
          all_goals rfl
        rw [hf, this]; simp
    exact (recB_len r hw).2
  · simp
theorem sectors_spec (r : Rc) (hb : -128 ≤ r.kind ∧ r.kind ≤ 127) (hl : r.ws.length ≤ 1048576) (st : St) : ASpec Try.prog 15 [.agg (rcC r)] st fun v st' => v = .tup [.int .i64 (sectorsR r).1, .int .i64 (sectorsR r).2] ∧ st' = st := by
  refine pure_of (R := fun v => v = _) C6s F15 rfl ?_
  have h90 := bytesR_len r
  have hd : (((bytesR r).1.length : Int) + 44).tdiv 45 = (((bytesR r).1.length : Int) + 44) / 45 := Int.tdiv_eq_ediv_of_nonneg (by omega)
  simp (disch := first | omega | (simp only [List.length_take, List.length_drop, List.length_append, List.length_cons, List.length_nil, List.length_map]; omega)) [IntWalk.i64_in, IntWalk.i64_quo, c15, hd]
  by_cases hm : mayR r = true
  · have hB : bytesR r = (recB r, 0) := if_pos hm
    simp only [hB, sectorsR, hm, if_true]
    rw [show ((recB r).length : Int) + 45 - 1 = (recB r).length + 44 by omega]
    simp
  · have hB : bytesR r = ([], 2) := if_neg hm
    simp [hB, sectorsR, hm]
noncomputable def C7 : Orc := C6.add 15 (tab (fun x : Int × Int × Int × Int × Bool × List Wr × Int × Int × Int × Int × Int × Int => [.agg [.int .i8 x.1, .int .i64 x.2.1, .int .i64 x.2.2.1, .int .i64 x.2.2.2.1, .bool x.2.2.2.2.1, .sl .any (wrs x.2.2.2.2.2.1), .int .i64 x.2.2.2.2.2.2.1, .int .i64 x.2.2.2.2.2.2.2.1, .int .i64 x.2.2.2.2.2.2.2.2.1, .int .i64 x.2.2.2.2.2.2.2.2.2.1, .int .i64 x.2.2.2.2.2.2.2.2.2.2.1, .int .i64 x.2.2.2.2.2.2.2.2.2.2.2]]) (fun x => .tup [.int .i64 (sectorsR ⟨x.1, ⟨x.2.1, x.2.2.1, x.2.2.2.1⟩, x.2.2.2.2.1, x.2.2.2.2.2.1, x.2.2.2.2.2.2.1, x.2.2.2.2.2.2.2.1, x.2.2.2.2.2.2.2.2.1, x.2.2.2.2.2.2.2.2.2.1, x.2.2.2.2.2.2.2.2.2.2.1, x.2.2.2.2.2.2.2.2.2.2.2⟩).1, .int .i64 (sectorsR ⟨x.1, ⟨x.2.1, x.2.2.1, x.2.2.2.1⟩, x.2.2.2.2.1, x.2.2.2.2.2.1, x.2.2.2.2.2.2.1, x.2.2.2.2.2.2.2.1, x.2.2.2.2.2.2.2.2.1, x.2.2.2.2.2.2.2.2.2.1, x.2.2.2.2.2.2.2.2.2.2.1, x.2.2.2.2.2.2.2.2.2.2.2⟩).2]) fun x => (-128 ≤ x.1 ∧ x.1 ≤ 127) ∧ x.2.2.2.2.2.1.length ≤ 1048576)
theorem C7s : OSound Try.prog C7 := C6s.tab fun x h st => sectors_spec ⟨x.1, ⟨x.2.1, x.2.2.1, x.2.2.2.1⟩, x.2.2.2.2.1, x.2.2.2.2.2.1, x.2.2.2.2.2.2.1, x.2.2.2.2.2.2.2.1, x.2.2.2.2.2.2.2.2.1, x.2.2.2.2.2.2.2.2.2.1, x.2.2.2.2.2.2.2.2.2.2.1, x.2.2.2.2.2.2.2.2.2.2.2⟩ h.1 h.2 st
@[simp] theorem C7_15 (a : Int) (b : Int) (c : Int) (d : Int) (e : Bool) (f : List Wr) (g : Int) (h' : Int) (i : Int) (j : Int) (k : Int) (l : Int) (h : (-128 ≤ a ∧ a ≤ 127) ∧ f.length ≤ 1048576) : C7 15 [.agg [.int .i8 a, .int .i64 b, .int .i64 c, .int .i64 d, .bool e, .sl .any (wrs f), .int .i64 g, .int .i64 h', .int .i64 i, .int .i64 j, .int .i64 k, .int .i64 l]] = some (.tup [.int .i64 (sectorsR ⟨a, ⟨b, c, d⟩, e, f, g, h', i, j, k, l⟩).1, .int .i64 (sectorsR ⟨a, ⟨b, c, d⟩, e, f, g, h', i, j, k, l⟩).2]) := by
  rw [C7, Orc.add_same]
  exact tab_eq (fun x y h => by simp at h; simp [h]) (x := (a, b, c, d, e, f, g, h', i, j, k, l)) h
@[simp] theorem C7_o (f : Nat) (args : List AV) (h : f ≠ 15) : C7 f args = C6 f args := by
  rw [C7, Orc.add_other _ _ _ _ _ h]
/-- A form's reader, the kind's. -/
theorem get_at (k : Int) (hk : 1 ≤ k ∧ k ≤ 5) (s : RS) (hs : s.1.length ≤ 1000000) : ∃ G t, formsC[k.toNat * 3 + 1]? = some (.fn (.func 59) [] [.rptr (fnA G)]) ∧ (∀ a, C4 G a = none) ∧ Got G (nRc k (rdNm s).1) (rdNm s).2 (rdBody k s) t ∧ (t = .any ∨ t = .clip) := by
  have ln : (rdNm s).2.1.length ≤ s.1.length := Nat.le_trans (rd3_len _) (Nat.le_trans (rd3_len _) (rd3_len _))
  have hs' : (rdNm s).2.1.length ≤ 1000000 := by omega
  obtain h | h | h | h | h : k = 1 ∨ k = 2 ∨ k = 3 ∨ k = 4 ∨ k = 5 := by omega
  · subst h; exact ⟨64, .any, rfl, by intro a; simp, got64 hs', .inl rfl⟩
  · subst h; exact ⟨69, .any, rfl, by intro a; simp, got69 hs', .inl rfl⟩
  · subst h; exact ⟨74, .clip, rfl, by intro a; simp, got74 hs', .inr rfl⟩
  · subst h; exact ⟨77, .clip, rfl, by intro a; simp, got77 hs', .inr rfl⟩
  · subst h; exact ⟨80, .clip, rfl, by intro a; simp, got80, .inr rfl⟩
theorem conv_i8_u8 (st : St) (x : UInt8) : evA (.conv .i8) [u8 x] st = some (.int .i8 (IntKind.i8.wrap x.toNat), st) := evA_conv (st := st) .i8 .u8 x.toNat
theorem rdBody_kind (k : Int) (s : RS) : (rdBody k s).1.kind = k := by
  unfold rdBody
  repeat' split
  all_goals rfl
theorem rdBody_ws (k : Int) (s : RS) : (rdBody k s).1.ws.length ≤ 255 := by
  unfold rdBody
  repeat' split
  all_goals first | exact rdWr_len _ | simp
theorem read_spec (b : List UInt8) (hb : b.length ≤ 1000000) (st : St) : ASpec Try.prog 9 [.sl .any (ofBytes b)] st fun v st' => v = .tup [.agg (rcC (readR b).1), .int .i64 (readR b).2] ∧ st' = st := by
  refine pure_of (R := fun v => v = _) C7s F9 rfl ?_
  cases b with
  | nil =>
    simp (disch := first | omega | (simp only [List.length_take, List.length_drop, List.length_append, List.length_cons, List.length_nil, List.length_map]; omega)) [IntWalk.i64_in, IntWalk.i64_quo, c9]
    simp [readR, zRc]
  | cons x t =>
    have hx := x.toNat_lt
    have h2 : ¬ (t.length : Int) + 1 = 0 := by omega
    by_cases h127 : 127 < x.toNat
    · have h127' : (127 : Int) < x.toNat := by omega
      simp (disch := first | omega | (simp only [List.length_take, List.length_drop, List.length_append, List.length_cons, List.length_nil, List.length_map]; omega)) [IntWalk.i64_in, IntWalk.i64_quo, c9, h127', h2]
      simp [readR, h127, zRc]
    · have h127' : ¬ (127 : Int) < x.toNat := by omega
      have hw : IntKind.i8.wrap (x.toNat : Int) = x.toNat := IntWalk.i8_in _ (by omega)
      have hR : readR (x :: t) = if (rdBody x.toNat (t, false)).2.2 = false ∧ (rdBody x.toNat (t, false)).2.1 = [] ∧ mayR (rdBody x.toNat (t, false)).1 = true then ((rdBody x.toNat (t, false)).1, 0) else (zRc 0, 40) := by
        simp [readR, h127]
      simp only [List.length_cons] at hb
      by_cases hk : 1 ≤ (x.toNat : Int) ∧ (x.toNat : Int) ≤ 7
      · by_cases h5 : (x.toNat : Int) ≤ 5
        · obtain ⟨G, tk, hG1, hG2, hG3, htk⟩ := get_at x.toNat (by omega) (t, false) (by simp; omega)
          have hol := (List.getElem?_eq_some_iff.1 hG1).1
          have ho : ∀ h, formsC[x.toNat * 3 + 1]'h = .fn (.func 59) [] [.rptr (fnA G)] := fun h => (List.getElem?_eq_some_iff.1 hG1).2
          clear hG1
          simp (disch := first | omega | (simp only [List.length_take, List.length_drop, List.length_append, List.length_cons, List.length_nil, List.length_map]; omega)) [IntWalk.i64_in, IntWalk.i64_quo, c9, h127', h2, conv_i8_u8, hw]
          refine (of_some x.toNat hk _).mono ?_
          rintro _ _ ⟨rfl, rfl⟩
          simp (disch := first | omega | (simp only [List.length_take, List.length_drop, List.length_append, List.length_cons, List.length_nil, List.length_map]; omega)) [IntWalk.i64_in, IntWalk.i64_quo, ho, hol]
          refine ⟨by omega, ?_⟩
          refine (got59 (k := x.toNat) (s := (t, false)) (f := G) (by simp; omega) hG2 hG3 (by omega) (by simp [gB]) (by simp [rBt, zRc])).mono ?_
          rintro _ _ ⟨rfl, rfl⟩
          have hT : ∀ t r, rBt t r = .cells false [.int .i8 r.kind, .int .i64 r.nm.stamp, .int .i64 r.nm.inc, .int .i64 r.nm.tr, .bool r.yes, .sl t (wrs r.ws), .int .i64 r.give, .int .i64 r.take, .int .i64 r.shards, .int .i64 r.stripe, .int .i64 r.to, .int .i64 r.n] := fun _ _ => rfl
          have hGB : ∀ s, gB s = .cells false [.sl .any (ofBytes s.1), .bool s.2] := fun _ => rfl
          obtain ⟨⟨r, rem, bad⟩, hq⟩ : ∃ q, rdBody x.toNat (t, false) = q := ⟨_, rfl⟩
          rw [hq] at hR ⊢
          have hkr : r.kind = x.toNat := by rw [show r = (rdBody x.toNat (t, false)).1 by rw [hq]]; exact rdBody_kind _ _
          have hwr : r.ws.length ≤ 1048576 := by rw [show r = (rdBody x.toNat (t, false)).1 by rw [hq]]; have := rdBody_ws x.toNat (t, false); omega
          have hkb : -128 ≤ r.kind ∧ r.kind ≤ 127 := by omega
          clear hG2 hG3 hq ho hol hk hw
          cases bad with
          | true =>
            simp (disch := first | omega | (simp only [List.length_take, List.length_drop, List.length_append, List.length_cons, List.length_nil, List.length_map]; omega)) [IntWalk.i64_in, IntWalk.i64_quo, hGB]
            simp [hR, zRc]
          | false =>
            cases rem with
            | cons y l =>
              have hne : ¬ (l.length : Int) + 1 ≤ 0 := by omega
              simp (disch := first | omega | (simp only [List.length_take, List.length_drop, List.length_append, List.length_cons, List.length_nil, List.length_map]; omega)) [IntWalk.i64_in, IntWalk.i64_quo, hGB, hne]
              simp [hR, zRc]
            | nil =>
              cases hm : mayR r with
              | true =>
                rcases htk with rfl | rfl
                · simp (disch := first | omega | (simp only [List.length_take, List.length_drop, List.length_append, List.length_cons, List.length_nil, List.length_map]; omega)) [IntWalk.i64_in, IntWalk.i64_quo, hGB, hT, hkb, hwr, hm]
                  simp [hR, hm]
                · simp (disch := first | omega | (simp only [List.length_take, List.length_drop, List.length_append, List.length_cons, List.length_nil, List.length_map]; omega)) [IntWalk.i64_in, IntWalk.i64_quo, hGB, hT, hkb, hwr, hm]
                  simp [hR, hm]
              | false =>
                rcases htk with rfl | rfl
                · simp (disch := first | omega | (simp only [List.length_take, List.length_drop, List.length_append, List.length_cons, List.length_nil, List.length_map]; omega)) [IntWalk.i64_in, IntWalk.i64_quo, hGB, hT, hkb, hwr, hm]
                  simp [hR, hm, zRc]
                · simp (disch := first | omega | (simp only [List.length_take, List.length_drop, List.length_append, List.length_cons, List.length_nil, List.length_map]; omega)) [IntWalk.i64_in, IntWalk.i64_quo, hGB, hT, hkb, hwr, hm]
                  simp [hR, hm, zRc]
        · have hk67 : (x.toNat : Int) = 6 ∨ (x.toNat : Int) = 7 := by omega
          have hG1 : formsC[(x.toNat : Int).toNat * 3 + 1]? = some (fnA 53) := by rcases hk67 with h | h <;> rw [h] <;> rfl
          have hq0 : rdBody x.toNat (t, false) = ({ zRc x.toNat with n := (rd3 (t, false)).1 }, (rd3 (t, false)).2) := by simp [rdBody, hk67, zRc]
          have hol := (List.getElem?_eq_some_iff.1 hG1).1
          have ho : ∀ h, formsC[x.toNat * 3 + 1]'h = fnA 53 := fun h => (List.getElem?_eq_some_iff.1 hG1).2
          clear hG1
          simp (disch := first | omega | (simp only [List.length_take, List.length_drop, List.length_append, List.length_cons, List.length_nil, List.length_map]; omega)) [IntWalk.i64_in, IntWalk.i64_quo, c9, h127', h2, conv_i8_u8, hw]
          refine (of_some x.toNat hk _).mono ?_
          rintro _ _ ⟨rfl, rfl⟩
          simp (disch := first | omega | (simp only [List.length_take, List.length_drop, List.length_append, List.length_cons, List.length_nil, List.length_map]; omega)) [IntWalk.i64_in, IntWalk.i64_quo, ho, hol]
          refine ⟨by omega, ?_⟩
          refine (got53 (k := x.toNat) (s := (t, false)) (by simp; omega) (by omega) (by simp [gB]) (by simp [rBt, zRc])).mono ?_
          rintro _ _ ⟨rfl, rfl⟩
          have hT : ∀ t r, rBt t r = .cells false [.int .i8 r.kind, .int .i64 r.nm.stamp, .int .i64 r.nm.inc, .int .i64 r.nm.tr, .bool r.yes, .sl t (wrs r.ws), .int .i64 r.give, .int .i64 r.take, .int .i64 r.shards, .int .i64 r.stripe, .int .i64 r.to, .int .i64 r.n] := fun _ _ => rfl
          have hGB : ∀ s, gB s = .cells false [.sl .any (ofBytes s.1), .bool s.2] := fun _ => rfl
          obtain ⟨⟨r, rem, bad⟩, hq⟩ : ∃ q, rdBody x.toNat (t, false) = q := ⟨_, rfl⟩
          rw [← hq0, hq]
          rw [hq] at hR
          clear hq0
          have hkr : r.kind = x.toNat := by rw [show r = (rdBody x.toNat (t, false)).1 by rw [hq]]; exact rdBody_kind _ _
          have hwr : r.ws.length ≤ 1048576 := by rw [show r = (rdBody x.toNat (t, false)).1 by rw [hq]]; have := rdBody_ws x.toNat (t, false); omega
          have hkb : -128 ≤ r.kind ∧ r.kind ≤ 127 := by omega
          clear hq ho hol hk hw
          cases bad with
          | true =>
            simp (disch := first | omega | (simp only [List.length_take, List.length_drop, List.length_append, List.length_cons, List.length_nil, List.length_map]; omega)) [IntWalk.i64_in, IntWalk.i64_quo, hGB]
            simp [hR, zRc]
          | false =>
            cases rem with
            | cons y l =>
              have hne : ¬ (l.length : Int) + 1 ≤ 0 := by omega
              simp (disch := first | omega | (simp only [List.length_take, List.length_drop, List.length_append, List.length_cons, List.length_nil, List.length_map]; omega)) [IntWalk.i64_in, IntWalk.i64_quo, hGB, hne]
              simp [hR, zRc]
            | nil =>
              cases hm : mayR r with
              | true =>
                simp (disch := first | omega | (simp only [List.length_take, List.length_drop, List.length_append, List.length_cons, List.length_nil, List.length_map]; omega)) [IntWalk.i64_in, IntWalk.i64_quo, hGB, hT, hkb, hwr, hm]
                simp [hR, hm]
              | false =>
                simp (disch := first | omega | (simp only [List.length_take, List.length_drop, List.length_append, List.length_cons, List.length_nil, List.length_map]; omega)) [IntWalk.i64_in, IntWalk.i64_quo, hGB, hT, hkb, hwr, hm]
                simp [hR, hm, zRc]
      · have hRN : readR (x :: t) = (zRc 0, 40) := by
          rw [hR, if_neg]
          rintro ⟨-, -, h⟩
          rw [may_such] at h
          simp only [Bool.and_eq_true, decide_eq_true_eq] at h
          have := h.1.1
          have hkk : (rdBody x.toNat (t, false)).1.kind = x.toNat := rdBody_kind _ _
          omega
        simp (disch := first | omega | (simp only [List.length_take, List.length_drop, List.length_append, List.length_cons, List.length_nil, List.length_map]; omega)) [IntWalk.i64_in, IntWalk.i64_quo, c9, h127', h2, conv_i8_u8, hw]
        refine (of_none x.toNat hk (by omega) _).mono ?_
        rintro _ _ ⟨rfl, rfl⟩
        simp (disch := first | omega | (simp only [List.length_take, List.length_drop, List.length_append, List.length_cons, List.length_nil, List.length_map]; omega)) [IntWalk.i64_in, IntWalk.i64_quo]
        simp [hRN, zRc]
end Go.Proofs.Ytchaakjbedkndaa

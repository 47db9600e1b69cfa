/- Messages: which may be: the program's answer is the reference's. -/
import Derived.Test.YtjceilhmgbdgiaaZK
set_option linter.all false
namespace Go.Proofs.Ytjceilhmgbdgiaa
open Go.Am

theorem may_no {m : Ms} (hk : ¬ (1 ≤ m.kind ∧ m.kind ≤ 11)) (st : St) : ASpec Try.prog 64 [.agg (msC m)] st fun v st' => v = .bool false ∧ st' = st := by
  refine pure_of (R := fun v => v = _) C3s F64 rfl ?_
  simp (disch := first | omega | (simp only [LL]; omega)) [WW, c64]
  refine (kind_no m.kind hk _).mono ?_
  rintro _ _ ⟨rfl, k1, k2, rfl⟩
  simp (disch := first | omega | (simp only [LL]; omega)) [WW]
theorem may_head {m : Ms} (hk : 1 ≤ m.kind ∧ m.kind ≤ 11) (hh : headM m = false) (st : St) : ASpec Try.prog 64 [.agg (msC m)] st fun v st' => v = .bool false ∧ st' = st := by
  refine pure_of (R := fun v => v = _) C3s F64 rfl ?_
  simp (disch := first | omega | (simp only [LL]; omega)) [WW, c64]
  refine (kind_spec m.kind hk _).mono ?_
  rintro _ _ ⟨rfl, k1, k2, rfl⟩
  simp (disch := first | omega | (simp only [LL]; omega)) [WW]
  repeat' first
    | (refine region_static rfl (by decide +kernel) ?_; try simp (disch := first | omega | (simp only [LL]; omega)) [WW])
    | (refine And.intro (by omega) ?_; try simp (disch := first | omega | (simp only [LL]; omega)) [WW])
    | (refine guardK_ndec (fun h => ?_) (fun h => ?_) <;> (try simp (disch := first | omega | (simp only [LL]; omega)) [h, WW]))
    | (refine guardK_dec (fun h => ?_) (fun h => ?_) <;> (try simp (disch := first | omega | (simp only [LL]; omega)) [h, WW]))
    | (refine guardK_nbeq (fun h => ?_) (fun h => ?_) <;> (try simp (disch := first | omega | (simp only [LL]; omega)) [h, WW]))
    | (refine guardK_beq (fun h => ?_) (fun h => ?_) <;> (try simp (disch := first | omega | (simp only [LL]; omega)) [h, WW]))
    | (refine guardK_bne (fun h => ?_) (fun h => ?_) <;> (try simp (disch := first | omega | (simp only [LL]; omega)) [h, WW]))
    | (refine guardK_not (fun h => ?_) (fun h => ?_) <;> (try simp (disch := first | omega | (simp only [LL]; omega)) [h, WW]))
    | (refine guardK_split (fun h => ?_) (fun h => ?_) <;> (try simp (disch := first | omega | (simp only [LL]; omega)) [h, WW]))
    | (refine condK_ndec (fun h => ?_) (fun h => ?_) <;> (try simp (disch := first | omega | (simp only [LL]; omega)) [h, WW]))
    | (refine condK_dec (fun h => ?_) (fun h => ?_) <;> (try simp (disch := first | omega | (simp only [LL]; omega)) [h, WW]))
    | (refine condK_nbeq (fun h => ?_) (fun h => ?_) <;> (try simp (disch := first | omega | (simp only [LL]; omega)) [h, WW]))
    | (refine condK_beq (fun h => ?_) (fun h => ?_) <;> (try simp (disch := first | omega | (simp only [LL]; omega)) [h, WW]))
    | (refine condK_bne (fun h => ?_) (fun h => ?_) <;> (try simp (disch := first | omega | (simp only [LL]; omega)) [h, WW]))
    | (refine condK_not (fun h => ?_) (fun h => ?_) <;> (try simp (disch := first | omega | (simp only [LL]; omega)) [h, WW]))
    | (refine condK_split (fun h => ?_) (fun h => ?_) <;> (try simp (disch := first | omega | (simp only [LL]; omega)) [h, WW]))
  all_goals
    exfalso
    unfold headM at hh
    simp only [decide_eq_false_iff_not] at hh
    apply hh
    first
      | contradiction
      | (simp only [within_f, within_iff] at *
         refine ⟨by omega, ?_, ?_, by omega⟩
         · by_cases a : m.fr = 0 <;> by_cases b : m.to = 0 <;> simp_all
         · simp_all)
theorem may_nn {m : Ms} (hk : 1 ≤ m.kind ∧ m.kind ≤ 11) (hl : m.ws.length ≤ 1048576) (hh : headM m = true) (hf : fieldsOf m.kind ≠ []) (hn : named m.nm = false) (st : St) : ASpec Try.prog 64 [.agg (msC m)] st fun v st' => v = .bool false ∧ st' = st := by
  refine pure_of (R := fun v => v = _) C3s F64 rfl ?_
  have hh' : (0 ≤ m.fr ∧ m.fr ≤ 4) ∧ (0 ≤ m.to ∧ m.to ≤ 4) ∧ (1 ≤ m.inc ∧ m.inc ≤ 1048576) ∧ (0 ≤ m.your ∧ m.your ≤ 1048576) ∧ decide (m.to = 0) = !decide (m.fr = 0) ∧ downK m.kind = decide (m.fr = 0) := by
    unfold headM at hh
    simp only [decide_eq_true_eq] at hh
    refine ⟨by omega, by omega, by omega, by omega, ?_, ?_⟩
    · have := hh.2.1
      by_cases h : m.fr = 0 <;> simp [h] at this ⊢ <;> exact this
    · rw [Bool.eq_iff_iff, hh.2.2.1]; simp
  obtain ⟨b1, b2, b3, b4, b5, b6⟩ := hh'
  have w1 := within_iff.2 b1
  have w2 := within_iff.2 b2
  have w3 := within_iff.2 b3
  have w4 := within_iff.2 b4
  simp (disch := first | omega | (simp only [LL]; omega)) [WW, c64]
  refine (kind_spec m.kind hk _).mono ?_
  rintro _ _ ⟨rfl, k1, k2, rfl⟩
  simp (disch := first | omega | (simp only [LL]; omega)) [WW, w1, w2, w3, w4, b5, b6]
  refine such_call hl (by simp [mB]) (by rw [show st.heap.length + 1 + 2 = st.heap.length + 3 by omega]; simp) ?_
  have h0 : 0 < (fieldsOf m.kind).length := List.length_pos_iff.2 hf
  cases hs : suchM m with
  | false =>
    simp (disch := first | omega | (simp only [LL]; omega)) [WW]
  | true =>
    simp (disch := first | omega | (simp only [LL]; omega)) [WW, h0, hn]
theorem written_len {l : List Wr} (h : written l = true) : l.length ≤ 8 := by
  unfold written at h
  simp only [Bool.and_eq_true, decide_eq_true_eq] at h
  exact h.2
theorem asc_all : ∀ {l : List Wr} {last : Int}, asc last l = true → ∀ w ∈ l, last < w.block ∧ w.block < 32
  | [], _, _ => by simp
  | w :: l, last, h => by
    rw [asc] at h
    simp only [Bool.and_eq_true, decide_eq_true_eq] at h
    intro x hx
    rcases List.mem_cons.1 hx with rfl | hx
    · exact h.1
    · have := asc_all h.2 x hx
      omega
theorem written_all {l : List Wr} (h : written l = true) : ∀ w ∈ l, 0 ≤ w.block ∧ w.block ≤ 255 := by
  unfold written at h
  simp only [Bool.and_eq_true, decide_eq_true_eq] at h
  intro w hw
  have := asc_all h.1 w hw
  omega
theorem okG_all {m : Ms} (hn : fieldsOf m.kind = [] ∨ named m.nm = true) (hs : suchM m = true) : ∀ f ∈ fieldsOf m.kind, okG f m := by
  intro f hf
  have hnm : okG .name m := by
    rcases hn with h | h
    · rw [h] at hf; simp at hf
    · rw [named_eq] at h
      simp only [Bool.and_eq_true, within_iff] at h
      simp only [okG]
      omega
  unfold suchM at hs
  unfold fieldsOf at hf
  by_cases h2 : m.kind = 2
  · simp [h2] at hs hf
    rcases hf with rfl | rfl | rfl | rfl | rfl
    · exact hnm
    all_goals simp only [okG]; try omega
  by_cases h3 : m.kind = 3
  · simp [h3] at hs hf
    rcases hf with rfl | rfl | rfl | rfl
    · exact hnm
    all_goals simp only [okG]; try omega
  by_cases h4 : m.kind = 4
  · simp [h4] at hs hf
    have hg := hs.1
    unfold given at hg
    simp only [decide_eq_true_eq] at hg
    rcases hf with rfl | rfl | rfl | rfl
    · exact hnm
    · simp only [okG]; omega
    · simp only [okG]; omega
    · exact ⟨written_len hs.2, written_all hs.2⟩
  by_cases h10 : m.kind = 10
  · simp [h10] at hs hf
    rcases hf with rfl | rfl
    · exact hnm
    · simp only [okG]; omega
  simp [h2, h3, h4, h10] at hf
  repeat' split at hf
  all_goals simp at hf
  all_goals (try rcases hf with rfl | rfl) <;> (try subst hf)
  all_goals first | exact hnm | trivial
theorem may_eq (m : Ms) : mayM m = (decide (1 ≤ m.kind ∧ m.kind ≤ 11) && headM m && (decide (fieldsOf m.kind = []) || named m.nm) && (suchM m && decide (m = getAll (fieldsOf m.kind) m (hdM m)))) := by
  by_cases hk : 1 ≤ m.kind ∧ m.kind ≤ 11
  case neg => simp [mayM, hk]
  cases hh : headM m
  case false => simp [mayM, hh]
  have hz : (⟨0, 0, 0, 0, 0, 0, 0, 0⟩ : Vl) = zV := rfl
  obtain h | h | h | h | h | h | h | h | h | h | h : m.kind = 1 ∨ m.kind = 2 ∨ m.kind = 3 ∨ m.kind = 4 ∨ m.kind = 5 ∨ m.kind = 6 ∨ m.kind = 7 ∨ m.kind = 8 ∨ m.kind = 9 ∨ m.kind = 10 ∨ m.kind = 11 := by omega
  all_goals
    rw [Bool.eq_iff_iff]
    simp [mayM, bodyM, suchM, hh, h, fieldsOf, ms_eq, fieldsM, getAll, setF, hdM, hz]
  all_goals (try rw [show (m.block < 32) = (m.block ≤ 31) from propext ⟨fun h => by omega, fun h => by omega⟩])
  all_goals simp only [and_assoc, and_comm, and_left_comm]
theorem may_spec (m : Ms) (hl : m.ws.length ≤ 1048576) (st : St) : ASpec Try.prog 64 [.agg (msC m)] st fun v st' => v = .bool (mayM m) ∧ st' = st := by
  rw [may_eq]
  by_cases hk : 1 ≤ m.kind ∧ m.kind ≤ 11
  case neg => simpa [hk] using may_no hk st
  cases hh : headM m
  case false => simpa [hk] using may_head hk hh st
  by_cases hn : fieldsOf m.kind = [] ∨ named m.nm = true
  case neg =>
    simp only [not_or, Bool.not_eq_true] at hn
    simpa [hk, hn.1, hn.2] using may_nn hk hl hh hn.1 hn.2 st
  have := may_kind hk hl hh hn (okG_all hn) st
  have e : (decide (fieldsOf m.kind = []) || named m.nm) = true := by simpa using hn
  rw [e]
  simpa [hk] using this
noncomputable def C4 : Orc := C3.add 64 (tab (fun x : Int × Int × Int × Int × Int × Int × Int × Int × Int × Int × Int × UInt8 × UInt8 × UInt8 × UInt8 × UInt8 × UInt8 × UInt8 × UInt8 × Int × Bool × Int × Int × List Wr => [.agg [.int .i8 x.1, .int .i64 x.2.1, .int .i64 x.2.2.1, .int .i64 x.2.2.2.1, .int .i64 x.2.2.2.2.1, .int .i64 x.2.2.2.2.2.1, .int .i64 x.2.2.2.2.2.2.1, .int .i64 x.2.2.2.2.2.2.2.1, .int .i64 x.2.2.2.2.2.2.2.2.1, .int .i8 x.2.2.2.2.2.2.2.2.2.1, .int .i64 x.2.2.2.2.2.2.2.2.2.2.1, u8 x.2.2.2.2.2.2.2.2.2.2.2.1, u8 x.2.2.2.2.2.2.2.2.2.2.2.2.1, u8 x.2.2.2.2.2.2.2.2.2.2.2.2.2.1, u8 x.2.2.2.2.2.2.2.2.2.2.2.2.2.2.1, u8 x.2.2.2.2.2.2.2.2.2.2.2.2.2.2.2.1, u8 x.2.2.2.2.2.2.2.2.2.2.2.2.2.2.2.2.1, u8 x.2.2.2.2.2.2.2.2.2.2.2.2.2.2.2.2.2.1, u8 x.2.2.2.2.2.2.2.2.2.2.2.2.2.2.2.2.2.2.1, .int .i64 x.2.2.2.2.2.2.2.2.2.2.2.2.2.2.2.2.2.2.2.1, .bool x.2.2.2.2.2.2.2.2.2.2.2.2.2.2.2.2.2.2.2.2.1, .int .i64 x.2.2.2.2.2.2.2.2.2.2.2.2.2.2.2.2.2.2.2.2.2.1, .int .i64 x.2.2.2.2.2.2.2.2.2.2.2.2.2.2.2.2.2.2.2.2.2.2.1, .sl .any (wrs x.2.2.2.2.2.2.2.2.2.2.2.2.2.2.2.2.2.2.2.2.2.2.2)]]) (fun x => .bool (mayM ⟨x.1, x.2.1, x.2.2.1, x.2.2.2.1, x.2.2.2.2.1, ⟨x.2.2.2.2.2.1, x.2.2.2.2.2.2.1, x.2.2.2.2.2.2.2.1⟩, x.2.2.2.2.2.2.2.2.1, x.2.2.2.2.2.2.2.2.2.1, x.2.2.2.2.2.2.2.2.2.2.1, ⟨x.2.2.2.2.2.2.2.2.2.2.2.1, x.2.2.2.2.2.2.2.2.2.2.2.2.1, x.2.2.2.2.2.2.2.2.2.2.2.2.2.1, x.2.2.2.2.2.2.2.2.2.2.2.2.2.2.1, x.2.2.2.2.2.2.2.2.2.2.2.2.2.2.2.1, x.2.2.2.2.2.2.2.2.2.2.2.2.2.2.2.2.1, x.2.2.2.2.2.2.2.2.2.2.2.2.2.2.2.2.2.1, x.2.2.2.2.2.2.2.2.2.2.2.2.2.2.2.2.2.2.1⟩, x.2.2.2.2.2.2.2.2.2.2.2.2.2.2.2.2.2.2.2.1, x.2.2.2.2.2.2.2.2.2.2.2.2.2.2.2.2.2.2.2.2.1, x.2.2.2.2.2.2.2.2.2.2.2.2.2.2.2.2.2.2.2.2.2.1, x.2.2.2.2.2.2.2.2.2.2.2.2.2.2.2.2.2.2.2.2.2.2.1, x.2.2.2.2.2.2.2.2.2.2.2.2.2.2.2.2.2.2.2.2.2.2.2⟩)) fun x => x.2.2.2.2.2.2.2.2.2.2.2.2.2.2.2.2.2.2.2.2.2.2.2.length ≤ 1048576)
theorem C4s : OSound Try.prog C4 := C3s.tab fun x h st => may_spec ⟨x.1, x.2.1, x.2.2.1, x.2.2.2.1, x.2.2.2.2.1, ⟨x.2.2.2.2.2.1, x.2.2.2.2.2.2.1, x.2.2.2.2.2.2.2.1⟩, x.2.2.2.2.2.2.2.2.1, x.2.2.2.2.2.2.2.2.2.1, x.2.2.2.2.2.2.2.2.2.2.1, ⟨x.2.2.2.2.2.2.2.2.2.2.2.1, x.2.2.2.2.2.2.2.2.2.2.2.2.1, x.2.2.2.2.2.2.2.2.2.2.2.2.2.1, x.2.2.2.2.2.2.2.2.2.2.2.2.2.2.1, x.2.2.2.2.2.2.2.2.2.2.2.2.2.2.2.1, x.2.2.2.2.2.2.2.2.2.2.2.2.2.2.2.2.1, x.2.2.2.2.2.2.2.2.2.2.2.2.2.2.2.2.2.1, x.2.2.2.2.2.2.2.2.2.2.2.2.2.2.2.2.2.2.1⟩, x.2.2.2.2.2.2.2.2.2.2.2.2.2.2.2.2.2.2.2.1, x.2.2.2.2.2.2.2.2.2.2.2.2.2.2.2.2.2.2.2.2.1, x.2.2.2.2.2.2.2.2.2.2.2.2.2.2.2.2.2.2.2.2.2.1, x.2.2.2.2.2.2.2.2.2.2.2.2.2.2.2.2.2.2.2.2.2.2.1, x.2.2.2.2.2.2.2.2.2.2.2.2.2.2.2.2.2.2.2.2.2.2.2⟩ h st
@[simp] theorem C4_64 (k : Int) (fr : Int) (to : Int) (inc : Int) (yo : Int) (a : Int) (b : Int) (c : Int) (n : Int) (op : Int) (bl : Int) (v0 : UInt8) (v1 : UInt8) (v2 : UInt8) (v3 : UInt8) (v4 : UInt8) (v5 : UInt8) (v6 : UInt8) (v7 : UInt8) (e : Int) (y : Bool) (g : Int) (t : Int) (ws : List Wr) (h : ws.length ≤ 1048576) : C4 64 [.agg [.int .i8 k, .int .i64 fr, .int .i64 to, .int .i64 inc, .int .i64 yo, .int .i64 a, .int .i64 b, .int .i64 c, .int .i64 n, .int .i8 op, .int .i64 bl, u8 v0, u8 v1, u8 v2, u8 v3, u8 v4, u8 v5, u8 v6, u8 v7, .int .i64 e, .bool y, .int .i64 g, .int .i64 t, .sl .any (wrs ws)]] = some (.bool (mayM ⟨k, fr, to, inc, yo, ⟨a, b, c⟩, n, op, bl, ⟨v0, v1, v2, v3, v4, v5, v6, v7⟩, e, y, g, t, ws⟩)) := by
  rw [C4, Orc.add_same]
  exact tab_eq (fun x y h => by simp at h; simp [h]) (x := (k, fr, to, inc, yo, a, b, c, n, op, bl, v0, v1, v2, v3, v4, v5, v6, v7, e, y, g, t, ws)) h
@[simp] theorem C4_o (f : Nat) (args : List AV) (h : f ≠ 64) : C4 f args = C3 f args := by
  rw [C4, Orc.add_other _ _ _ _ _ h]
theorem mayM_head {m : Ms} (h : mayM m = true) : headM m = true := by
  unfold mayM at h
  simp only [Bool.and_eq_true] at h
  exact h.1.2
theorem head_facts {m : Ms} (h : headM m = true) : (0 ≤ m.fr ∧ m.fr ≤ 4 ∧ 0 ≤ m.to ∧ m.to ≤ 4) ∧ (m.fr = 0 ↔ ¬ m.to = 0) ∧ (downK m.kind = true ↔ m.fr = 0) ∧ 1 ≤ m.inc ∧ m.inc ≤ 1048576 ∧ 0 ≤ m.your ∧ m.your ≤ 1048576 := by
  unfold headM at h
  simpa only [decide_eq_true_eq] using h
end Go.Proofs.Ytjceilhmgbdgiaa

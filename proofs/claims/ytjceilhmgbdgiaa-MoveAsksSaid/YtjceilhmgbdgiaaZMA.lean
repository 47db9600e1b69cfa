/- Moves: plain data; such, Same, Check, ask, own. -/
import Derived.Test.YtjceilhmgbdgiaaZL
import Derived.Test.YtjceilhmgbdgiaaZCodeM
set_option linter.all false
namespace Go.Proofs.Ytjceilhmgbdgiaa
open Go.Am

@[simp] def vlA (v : Vl) : AV := .agg [u8 v.v0, u8 v.v1, u8 v.v2, u8 v.v3, u8 v.v4, u8 v.v5, u8 v.v6, u8 v.v7]
def vls (l : List Vl) : List AV := l.map vlA
@[simp] theorem vls_length (l : List Vl) : (vls l).length = l.length := by simp [vls]
@[simp] theorem vls_nil : vls [] = [] := rfl
@[simp] theorem vls_cons (v : Vl) (l : List Vl) : vls (v :: l) = vlA v :: vls l := rfl
@[simp] theorem vls_get (l : List Vl) (i : Nat) : (vls l)[i]? = l[i]?.map vlA := by simp [vls]
@[simp] theorem vls_allSz (l : List Vl) : allSz 8 (vls l) = true := allSz_map _ _ _ fun _ => rfl
@[simp] theorem vls_norm (l : List Vl) : normL (vls l) = vls l := normL_map _ _ fun x => by simp
@[simp] theorem vls_ok (l : List Vl) (n m : Nat) : okL n m (vls l) = true := okL_map _ _ fun x _ => by simp
@[simp] theorem vls_snoc (l : List Vl) (v : Vl) : vls l ++ [.agg [u8 v.v0, u8 v.v1, u8 v.v2, u8 v.v3, u8 v.v4, u8 v.v5, u8 v.v6, u8 v.v7]] = vls (l ++ [v]) := by simp [vls]
@[simp] theorem vls_take (l : List Vl) (n : Nat) : (vls l).take n = vls (l.take n) := by simp [vls, List.map_take]
theorem vlA_inj {a b : Vl} (h : vlA a = vlA b) : a = b := by
  cases a; cases b
  simp at h
  simp [h]
@[simp] theorem vls_inj {a b : List Vl} : vls a = vls b ↔ a = b := ⟨fun h => (List.map_inj_right (fun a b e => vlA_inj e)).1 h, fun h => h ▸ rfl⟩
structure Mv where
  ph : Int
  nm : Nm
  stripe : Int
  to : Int
  fr : Int
  n : Int
  vals : List Vl
  deriving DecidableEq
@[simp] def mvC (m : Mv) : List AV := [.int .i8 m.ph, .int .i64 m.nm.stamp, .int .i64 m.nm.inc, .int .i64 m.nm.tr, .int .i64 m.stripe, .int .i64 m.to, .int .i64 m.fr, .int .i64 m.n, .sl .any (vls m.vals)]
def zMv : Mv := ⟨0, ⟨0, 0, 0⟩, 0, 0, 0, 0, []⟩
theorem take_ext' {α : Type} {l1 l2 : List α} {i : Nat} (h : l1.take i = l2.take i) (h1 : i < l1.length) (h2 : i < l2.length) (he : l1[i] = l2[i]) : l1.take (i + 1) = l2.take (i + 1) := by
  rw [List.take_succ_eq_append_getElem h1, List.take_succ_eq_append_getElem h2, h, he]
@[simp high] theorem neq8 (v0 v1 v2 v3 v4 v5 v6 v7 u0 u1 u2 u3 u4 u5 u6 u7 : UInt8) : binA .neq (.flat [0, 0, 0, 0, 0, 0, 0, 0]) (.agg [u8 v0, u8 v1, u8 v2, u8 v3, u8 v4, u8 v5, u8 v6, u8 v7]) (.agg [u8 u0, u8 u1, u8 u2, u8 u3, u8 u4, u8 u5, u8 u6, u8 u7]) = some (.bool (!decide (Vl.mk v0 v1 v2 v3 v4 v5 v6 v7 = Vl.mk u0 u1 u2 u3 u4 u5 u6 u7))) := by
  rw [binA_neqF, eq8]
  rfl
theorem vequal_spec (a b : List Vl) (hl : a.length ≤ 1048576) (st : St) : ASpec Try.prog 63 [.sl .any (vls a), .sl .any (vls b)] st fun v st' => v = .bool (decide (a = b)) ∧ st' = st := by
  refine pure_of (R := fun v => v = _) C4s F63 rfl ?_
  by_cases hl : a.length = b.length
  case neg =>
    have hl' : ¬ (a.length : Int) = b.length := by omega
    simp (disch := first | omega | (simp only [List.length_take, List.length_drop, List.length_append, List.length_cons, List.length_nil, List.length_map]; omega)) [IntWalk.i64_in, IntWalk.i64_quo, c63, hl']
    exact fun h => hl (by rw [h])
  simp (disch := first | omega | (simp only [List.length_take, List.length_drop, List.length_append, List.length_cons, List.length_nil, List.length_map]; omega)) [IntWalk.i64_in, IntWalk.i64_quo, c63, hl]
  refine awC_loopW (fun k env s => ∃ i, k + i = a.length ∧ env 0 = .sl .any (vls a) ∧ env 1 = .sl .any (vls b) ∧ env 12 = .int .i64 a.length ∧ env 13 = .int .i64 i ∧ s = st ∧ a.take i = b.take i) a.length ?_ ?_
  · exact ⟨0, by simp [hl]⟩
  rintro k env s ⟨i, hk, e0, e1, e12, e13, rfl, ht⟩
  by_cases hi : i < a.length
  · have hi' : (i : Int) < a.length := by omega
    have hib : i < b.length := by omega
    simp (disch := first | omega | (simp only [List.length_take, List.length_drop, List.length_append, List.length_cons, List.length_nil, List.length_map]; omega)) [IntWalk.i64_in, IntWalk.i64_quo, e0, e1, e12, e13, hi', hi, hib]
    repeat' first
      | (refine region_static rfl (by decide +kernel) ?_; try simp (disch := first | omega | (simp only [List.length_take, List.length_drop, List.length_append, List.length_cons, List.length_nil, List.length_map]; omega)) [IntWalk.i64_in, IntWalk.i64_quo, e0, e1, e12, e13, hi', hi, hib])
      | (refine And.intro (by omega) ?_; try simp (disch := first | omega | (simp only [List.length_take, List.length_drop, List.length_append, List.length_cons, List.length_nil, List.length_map]; omega)) [IntWalk.i64_in, IntWalk.i64_quo, e0, e1, e12, e13, hi', hi, hib])
      | (refine guardK_ndec (fun h => ?_) (fun h => ?_) <;> (try simp (disch := first | omega | (simp only [List.length_take, List.length_drop, List.length_append, List.length_cons, List.length_nil, List.length_map]; omega)) [h, IntWalk.i64_in, IntWalk.i64_quo, e0, e1, e12, e13, hi', hi, hib]))
      | (refine guardK_dec (fun h => ?_) (fun h => ?_) <;> (try simp (disch := first | omega | (simp only [List.length_take, List.length_drop, List.length_append, List.length_cons, List.length_nil, List.length_map]; omega)) [h, IntWalk.i64_in, IntWalk.i64_quo, e0, e1, e12, e13, hi', hi, hib]))
      | (refine guardK_nbeq (fun h => ?_) (fun h => ?_) <;> (try simp (disch := first | omega | (simp only [List.length_take, List.length_drop, List.length_append, List.length_cons, List.length_nil, List.length_map]; omega)) [h, IntWalk.i64_in, IntWalk.i64_quo, e0, e1, e12, e13, hi', hi, hib]))
      | (refine guardK_beq (fun h => ?_) (fun h => ?_) <;> (try simp (disch := first | omega | (simp only [List.length_take, List.length_drop, List.length_append, List.length_cons, List.length_nil, List.length_map]; omega)) [h, IntWalk.i64_in, IntWalk.i64_quo, e0, e1, e12, e13, hi', hi, hib]))
      | (refine guardK_bne (fun h => ?_) (fun h => ?_) <;> (try simp (disch := first | omega | (simp only [List.length_take, List.length_drop, List.length_append, List.length_cons, List.length_nil, List.length_map]; omega)) [h, IntWalk.i64_in, IntWalk.i64_quo, e0, e1, e12, e13, hi', hi, hib]))
      | (refine guardK_not (fun h => ?_) (fun h => ?_) <;> (try simp (disch := first | omega | (simp only [List.length_take, List.length_drop, List.length_append, List.length_cons, List.length_nil, List.length_map]; omega)) [h, IntWalk.i64_in, IntWalk.i64_quo, e0, e1, e12, e13, hi', hi, hib]))
      | (refine guardK_split (fun h => ?_) (fun h => ?_) <;> (try simp (disch := first | omega | (simp only [List.length_take, List.length_drop, List.length_append, List.length_cons, List.length_nil, List.length_map]; omega)) [h, IntWalk.i64_in, IntWalk.i64_quo, e0, e1, e12, e13, hi', hi, hib]))
      | (refine condK_ndec (fun h => ?_) (fun h => ?_) <;> (try simp (disch := first | omega | (simp only [List.length_take, List.length_drop, List.length_append, List.length_cons, List.length_nil, List.length_map]; omega)) [h, IntWalk.i64_in, IntWalk.i64_quo, e0, e1, e12, e13, hi', hi, hib]))
      | (refine condK_dec (fun h => ?_) (fun h => ?_) <;> (try simp (disch := first | omega | (simp only [List.length_take, List.length_drop, List.length_append, List.length_cons, List.length_nil, List.length_map]; omega)) [h, IntWalk.i64_in, IntWalk.i64_quo, e0, e1, e12, e13, hi', hi, hib]))
      | (refine condK_nbeq (fun h => ?_) (fun h => ?_) <;> (try simp (disch := first | omega | (simp only [List.length_take, List.length_drop, List.length_append, List.length_cons, List.length_nil, List.length_map]; omega)) [h, IntWalk.i64_in, IntWalk.i64_quo, e0, e1, e12, e13, hi', hi, hib]))
      | (refine condK_beq (fun h => ?_) (fun h => ?_) <;> (try simp (disch := first | omega | (simp only [List.length_take, List.length_drop, List.length_append, List.length_cons, List.length_nil, List.length_map]; omega)) [h, IntWalk.i64_in, IntWalk.i64_quo, e0, e1, e12, e13, hi', hi, hib]))
      | (refine condK_bne (fun h => ?_) (fun h => ?_) <;> (try simp (disch := first | omega | (simp only [List.length_take, List.length_drop, List.length_append, List.length_cons, List.length_nil, List.length_map]; omega)) [h, IntWalk.i64_in, IntWalk.i64_quo, e0, e1, e12, e13, hi', hi, hib]))
      | (refine condK_not (fun h => ?_) (fun h => ?_) <;> (try simp (disch := first | omega | (simp only [List.length_take, List.length_drop, List.length_append, List.length_cons, List.length_nil, List.length_map]; omega)) [h, IntWalk.i64_in, IntWalk.i64_quo, e0, e1, e12, e13, hi', hi, hib]))
      | (refine condK_split (fun h => ?_) (fun h => ?_) <;> (try simp (disch := first | omega | (simp only [List.length_take, List.length_drop, List.length_append, List.length_cons, List.length_nil, List.length_map]; omega)) [h, IntWalk.i64_in, IntWalk.i64_quo, e0, e1, e12, e13, hi', hi, hib]))
    · exact ⟨k - 1, by omega, i + 1, by omega, by simp, take_ext' ht hi hib (by assumption)⟩
    · intro hab
      subst hab
      exact absurd rfl (by assumption)
  · have hi' : ¬ (i : Int) < a.length := by omega
    have hib : ¬ i < b.length := by omega
    rw [List.take_of_length_le (by omega), List.take_of_length_le (by omega)] at ht
    clear hl
    simp (disch := first | omega | (simp only [List.length_take, List.length_drop, List.length_append, List.length_cons, List.length_nil, List.length_map]; omega)) [IntWalk.i64_in, IntWalk.i64_quo, e0, e1, e12, e13, hi', hib]
    exact ht
noncomputable def D1 : Orc := C4.add 63 (tab (fun x : List Vl × List Vl => [.sl .any (vls x.1), .sl .any (vls x.2)]) (fun x => .bool (decide (x.1 = x.2))) fun x => x.1.length ≤ 1048576)
theorem D1s : OSound Try.prog D1 := C4s.tab fun x h st => vequal_spec x.1 x.2 h st
@[simp] theorem D1_63 (a : List Vl) (b : List Vl) (h : a.length ≤ 1048576) : D1 63 [.sl .any (vls a), .sl .any (vls b)] = some (.bool (decide (a = b))) := by
  rw [D1, Orc.add_same]
  exact tab_eq (fun x y h => by simp at h; simp [h]) (x := (a, b)) h
@[simp] theorem D1_o (f : Nat) (args : List AV) (h : f ≠ 63) : D1 f args = C4 f args := by
  rw [D1, Orc.add_other _ _ _ _ _ h]
theorem vclone_spec (a : List Vl) (hl : a.length ≤ 1048576) (st : St) : ASpec Try.prog 119 [.sl .any (vls a)] st fun v st' => v = .sl .any (vls a) ∧ st' = st := by
  refine pure_of (R := fun v => v = _) C4s F119 rfl ?_
  rcases a with _ | ⟨x, a⟩
  · simp (disch := first | omega | (simp only [List.length_take, List.length_drop, List.length_append, List.length_cons, List.length_nil, List.length_map]; omega)) [IntWalk.i64_in, IntWalk.i64_quo, c119]
  · have hl' : a.length ≤ 2147483647 := by simp at hl; omega
    simp (disch := first | omega | (simp only [List.length_take, List.length_drop, List.length_append, List.length_cons, List.length_nil, List.length_map]; omega)) [IntWalk.i64_in, IntWalk.i64_quo, c119, hl']
noncomputable def D2 : Orc := D1.add 119 (tab (fun x : List Vl => [.sl .any (vls x)]) (fun x => .sl .any (vls x)) fun x => x.length ≤ 1048576)
theorem D2s : OSound Try.prog D2 := D1s.tab fun x h st => vclone_spec x h st
@[simp] theorem D2_119 (a : List Vl) (h : a.length ≤ 1048576) : D2 119 [.sl .any (vls a)] = some (.sl .any (vls a)) := by
  rw [D2, Orc.add_same]
  exact tab_eq (fun x y h => by simp at h; simp [h]) (x := (a)) h
@[simp] theorem D2_o (f : Nat) (args : List AV) (h : f ≠ 119) : D2 f args = D1 f args := by
  rw [D2, Orc.add_other _ _ _ _ _ h]
@[simp] theorem D2_119n : D2 119 [.sl .any []] = some (.sl .any []) := D2_119 [] (by simp)
@[simp] theorem mv_eta (m : Mv) : Mv.mk m.ph m.nm m.stripe m.to m.fr m.n m.vals = m := rfl
theorem mv_eq (a b : Mv) : a = b ↔ a.ph = b.ph ∧ (a.nm.stamp = b.nm.stamp ∧ a.nm.inc = b.nm.inc ∧ a.nm.tr = b.nm.tr) ∧ (a.stripe = b.stripe ∧ a.to = b.to) ∧ a.fr = b.fr ∧ a.n = b.n ∧ a.vals = b.vals := by
  cases a with
  | mk a1 a2 a3 a4 a5 a6 a7 =>
  cases b with
  | mk b1 b2 b3 b4 b5 b6 b7 =>
  cases a2; cases b2
  simp [and_assoc]
theorem msame_spec (a b : Mv) (hl : a.vals.length ≤ 1048576) (st : St) : ASpec Try.prog 16 [.agg (mvC a), .agg (mvC b)] st fun v st' => v = .bool (decide (a = b)) ∧ st' = st := by
  refine pure_of (R := fun v => v = _) D2s F16 rfl ?_
  simp (disch := first | omega | (simp only [List.length_take, List.length_drop, List.length_append, List.length_cons, List.length_nil, List.length_map]; omega)) [IntWalk.i64_in, IntWalk.i64_quo, c16, hl]
  repeat' first
    | (refine region_static rfl (by decide +kernel) ?_; try simp (disch := first | omega | (simp only [List.length_take, List.length_drop, List.length_append, List.length_cons, List.length_nil, List.length_map]; omega)) [IntWalk.i64_in, IntWalk.i64_quo])
    | (refine And.intro (by omega) ?_; try simp (disch := first | omega | (simp only [List.length_take, List.length_drop, List.length_append, List.length_cons, List.length_nil, List.length_map]; omega)) [IntWalk.i64_in, IntWalk.i64_quo])
    | (refine guardK_ndec (fun h => ?_) (fun h => ?_) <;> (try simp (disch := first | omega | (simp only [List.length_take, List.length_drop, List.length_append, List.length_cons, List.length_nil, List.length_map]; omega)) [h, IntWalk.i64_in, IntWalk.i64_quo]))
    | (refine guardK_dec (fun h => ?_) (fun h => ?_) <;> (try simp (disch := first | omega | (simp only [List.length_take, List.length_drop, List.length_append, List.length_cons, List.length_nil, List.length_map]; omega)) [h, IntWalk.i64_in, IntWalk.i64_quo]))
    | (refine guardK_nbeq (fun h => ?_) (fun h => ?_) <;> (try simp (disch := first | omega | (simp only [List.length_take, List.length_drop, List.length_append, List.length_cons, List.length_nil, List.length_map]; omega)) [h, IntWalk.i64_in, IntWalk.i64_quo]))
    | (refine guardK_beq (fun h => ?_) (fun h => ?_) <;> (try simp (disch := first | omega | (simp only [List.length_take, List.length_drop, List.length_append, List.length_cons, List.length_nil, List.length_map]; omega)) [h, IntWalk.i64_in, IntWalk.i64_quo]))
    | (refine guardK_bne (fun h => ?_) (fun h => ?_) <;> (try simp (disch := first | omega | (simp only [List.length_take, List.length_drop, List.length_append, List.length_cons, List.length_nil, List.length_map]; omega)) [h, IntWalk.i64_in, IntWalk.i64_quo]))
    | (refine guardK_not (fun h => ?_) (fun h => ?_) <;> (try simp (disch := first | omega | (simp only [List.length_take, List.length_drop, List.length_append, List.length_cons, List.length_nil, List.length_map]; omega)) [h, IntWalk.i64_in, IntWalk.i64_quo]))
    | (refine guardK_split (fun h => ?_) (fun h => ?_) <;> (try simp (disch := first | omega | (simp only [List.length_take, List.length_drop, List.length_append, List.length_cons, List.length_nil, List.length_map]; omega)) [h, IntWalk.i64_in, IntWalk.i64_quo]))
    | (refine condK_ndec (fun h => ?_) (fun h => ?_) <;> (try simp (disch := first | omega | (simp only [List.length_take, List.length_drop, List.length_append, List.length_cons, List.length_nil, List.length_map]; omega)) [h, IntWalk.i64_in, IntWalk.i64_quo]))
    | (refine condK_dec (fun h => ?_) (fun h => ?_) <;> (try simp (disch := first | omega | (simp only [List.length_take, List.length_drop, List.length_append, List.length_cons, List.length_nil, List.length_map]; omega)) [h, IntWalk.i64_in, IntWalk.i64_quo]))
    | (refine condK_nbeq (fun h => ?_) (fun h => ?_) <;> (try simp (disch := first | omega | (simp only [List.length_take, List.length_drop, List.length_append, List.length_cons, List.length_nil, List.length_map]; omega)) [h, IntWalk.i64_in, IntWalk.i64_quo]))
    | (refine condK_beq (fun h => ?_) (fun h => ?_) <;> (try simp (disch := first | omega | (simp only [List.length_take, List.length_drop, List.length_append, List.length_cons, List.length_nil, List.length_map]; omega)) [h, IntWalk.i64_in, IntWalk.i64_quo]))
    | (refine condK_bne (fun h => ?_) (fun h => ?_) <;> (try simp (disch := first | omega | (simp only [List.length_take, List.length_drop, List.length_append, List.length_cons, List.length_nil, List.length_map]; omega)) [h, IntWalk.i64_in, IntWalk.i64_quo]))
    | (refine condK_not (fun h => ?_) (fun h => ?_) <;> (try simp (disch := first | omega | (simp only [List.length_take, List.length_drop, List.length_append, List.length_cons, List.length_nil, List.length_map]; omega)) [h, IntWalk.i64_in, IntWalk.i64_quo]))
    | (refine condK_split (fun h => ?_) (fun h => ?_) <;> (try simp (disch := first | omega | (simp only [List.length_take, List.length_drop, List.length_append, List.length_cons, List.length_nil, List.length_map]; omega)) [h, IntWalk.i64_in, IntWalk.i64_quo]))
  all_goals first
    | contradiction
    | (simp only [mv_eq]; simp_all)
noncomputable def D3 : Orc := D2.add 16 (tab (fun x : Int × Int × Int × Int × Int × Int × Int × Int × List Vl × Int × Int × Int × Int × Int × Int × Int × Int × List Vl => [.agg [.int .i8 x.1, .int .i64 x.2.1, .int .i64 x.2.2.1, .int .i64 x.2.2.2.1, .int .i64 x.2.2.2.2.1, .int .i64 x.2.2.2.2.2.1, .int .i64 x.2.2.2.2.2.2.1, .int .i64 x.2.2.2.2.2.2.2.1, .sl .any (vls x.2.2.2.2.2.2.2.2.1)], .agg [.int .i8 x.2.2.2.2.2.2.2.2.2.1, .int .i64 x.2.2.2.2.2.2.2.2.2.2.1, .int .i64 x.2.2.2.2.2.2.2.2.2.2.2.1, .int .i64 x.2.2.2.2.2.2.2.2.2.2.2.2.1, .int .i64 x.2.2.2.2.2.2.2.2.2.2.2.2.2.1, .int .i64 x.2.2.2.2.2.2.2.2.2.2.2.2.2.2.1, .int .i64 x.2.2.2.2.2.2.2.2.2.2.2.2.2.2.2.1, .int .i64 x.2.2.2.2.2.2.2.2.2.2.2.2.2.2.2.2.1, .sl .any (vls x.2.2.2.2.2.2.2.2.2.2.2.2.2.2.2.2.2)]]) (fun x => .bool (decide ((⟨x.1, ⟨x.2.1, x.2.2.1, x.2.2.2.1⟩, x.2.2.2.2.1, x.2.2.2.2.2.1, x.2.2.2.2.2.2.1, x.2.2.2.2.2.2.2.1, x.2.2.2.2.2.2.2.2.1⟩ : Mv) = (⟨x.2.2.2.2.2.2.2.2.2.1, ⟨x.2.2.2.2.2.2.2.2.2.2.1, x.2.2.2.2.2.2.2.2.2.2.2.1, x.2.2.2.2.2.2.2.2.2.2.2.2.1⟩, x.2.2.2.2.2.2.2.2.2.2.2.2.2.1, x.2.2.2.2.2.2.2.2.2.2.2.2.2.2.1, x.2.2.2.2.2.2.2.2.2.2.2.2.2.2.2.1, x.2.2.2.2.2.2.2.2.2.2.2.2.2.2.2.2.1, x.2.2.2.2.2.2.2.2.2.2.2.2.2.2.2.2.2⟩ : Mv)))) fun x => x.2.2.2.2.2.2.2.2.1.length ≤ 1048576)
theorem D3s : OSound Try.prog D3 := D2s.tab fun x h st => msame_spec ⟨x.1, ⟨x.2.1, x.2.2.1, x.2.2.2.1⟩, x.2.2.2.2.1, x.2.2.2.2.2.1, x.2.2.2.2.2.2.1, x.2.2.2.2.2.2.2.1, x.2.2.2.2.2.2.2.2.1⟩ ⟨x.2.2.2.2.2.2.2.2.2.1, ⟨x.2.2.2.2.2.2.2.2.2.2.1, x.2.2.2.2.2.2.2.2.2.2.2.1, x.2.2.2.2.2.2.2.2.2.2.2.2.1⟩, x.2.2.2.2.2.2.2.2.2.2.2.2.2.1, x.2.2.2.2.2.2.2.2.2.2.2.2.2.2.1, x.2.2.2.2.2.2.2.2.2.2.2.2.2.2.2.1, x.2.2.2.2.2.2.2.2.2.2.2.2.2.2.2.2.1, x.2.2.2.2.2.2.2.2.2.2.2.2.2.2.2.2.2⟩ h st
@[simp] theorem D3_16 (p : Int) (a : Int) (b : Int) (c : Int) (s : Int) (t : Int) (f : Int) (n : Int) (l : List Vl) (p' : Int) (a' : Int) (b' : Int) (c' : Int) (s' : Int) (t' : Int) (f' : Int) (n' : Int) (l' : List Vl) (h : l.length ≤ 1048576) : D3 16 [.agg [.int .i8 p, .int .i64 a, .int .i64 b, .int .i64 c, .int .i64 s, .int .i64 t, .int .i64 f, .int .i64 n, .sl .any (vls l)], .agg [.int .i8 p', .int .i64 a', .int .i64 b', .int .i64 c', .int .i64 s', .int .i64 t', .int .i64 f', .int .i64 n', .sl .any (vls l')]] = some (.bool (decide ((⟨p, ⟨a, b, c⟩, s, t, f, n, l⟩ : Mv) = (⟨p', ⟨a', b', c'⟩, s', t', f', n', l'⟩ : Mv)))) := by
  rw [D3, Orc.add_same]
  exact tab_eq (fun x y h => by simp at h; simp [h]) (x := (p, a, b, c, s, t, f, n, l, p', a', b', c', s', t', f', n', l')) h
@[simp] theorem D3_o (f : Nat) (args : List AV) (h : f ≠ 16) : D3 f args = D2 f args := by
  rw [D3, Orc.add_other _ _ _ _ _ h]
@[simp] theorem D3_16z (p a b c s t f n : Int) (l : List Vl) (h : l.length ≤ 1048576) : D3 16 [.agg [.int .i8 p, .int .i64 a, .int .i64 b, .int .i64 c, .int .i64 s, .int .i64 t, .int .i64 f, .int .i64 n, .sl .any (vls l)], .agg [.int .i8 0, .int .i64 0, .int .i64 0, .int .i64 0, .int .i64 0, .int .i64 0, .int .i64 0, .int .i64 0, .sl .any []]] = some (.bool (decide ((⟨p, ⟨a, b, c⟩, s, t, f, n, l⟩ : Mv) = zMv))) := D3_16 p a b c s t f n l 0 0 0 0 0 0 0 0 [] h
def suchC (s t f : Int) (n : Nm) : Bool := within s 0 7 && within t 1 4 && within f 1 4 && decide (f ≠ t) && named n
theorem suchC_spec (s t f : Int) (n : Nm) (st : St) : ASpec Try.prog 60 [.agg [.int .i64 s, .int .i64 t], .int .i64 f, .agg (nmC n)] st fun v st' => v = .bool (suchC s t f n) ∧ st' = st := by
  refine pure_of (R := fun v => v = _) D3s F60 rfl ?_
  simp (disch := first | omega | (simp only [List.length_take, List.length_drop, List.length_append, List.length_cons, List.length_nil, List.length_map]; omega)) [IntWalk.i64_in, IntWalk.i64_quo, c60]
  repeat' first
    | (refine region_static rfl (by decide +kernel) ?_; try simp (disch := first | omega | (simp only [List.length_take, List.length_drop, List.length_append, List.length_cons, List.length_nil, List.length_map]; omega)) [IntWalk.i64_in, IntWalk.i64_quo])
    | (refine And.intro (by omega) ?_; try simp (disch := first | omega | (simp only [List.length_take, List.length_drop, List.length_append, List.length_cons, List.length_nil, List.length_map]; omega)) [IntWalk.i64_in, IntWalk.i64_quo])
    | (refine guardK_ndec (fun h => ?_) (fun h => ?_) <;> (try simp (disch := first | omega | (simp only [List.length_take, List.length_drop, List.length_append, List.length_cons, List.length_nil, List.length_map]; omega)) [h, IntWalk.i64_in, IntWalk.i64_quo]))
    | (refine guardK_dec (fun h => ?_) (fun h => ?_) <;> (try simp (disch := first | omega | (simp only [List.length_take, List.length_drop, List.length_append, List.length_cons, List.length_nil, List.length_map]; omega)) [h, IntWalk.i64_in, IntWalk.i64_quo]))
    | (refine guardK_nbeq (fun h => ?_) (fun h => ?_) <;> (try simp (disch := first | omega | (simp only [List.length_take, List.length_drop, List.length_append, List.length_cons, List.length_nil, List.length_map]; omega)) [h, IntWalk.i64_in, IntWalk.i64_quo]))
    | (refine guardK_beq (fun h => ?_) (fun h => ?_) <;> (try simp (disch := first | omega | (simp only [List.length_take, List.length_drop, List.length_append, List.length_cons, List.length_nil, List.length_map]; omega)) [h, IntWalk.i64_in, IntWalk.i64_quo]))
    | (refine guardK_bne (fun h => ?_) (fun h => ?_) <;> (try simp (disch := first | omega | (simp only [List.length_take, List.length_drop, List.length_append, List.length_cons, List.length_nil, List.length_map]; omega)) [h, IntWalk.i64_in, IntWalk.i64_quo]))
    | (refine guardK_not (fun h => ?_) (fun h => ?_) <;> (try simp (disch := first | omega | (simp only [List.length_take, List.length_drop, List.length_append, List.length_cons, List.length_nil, List.length_map]; omega)) [h, IntWalk.i64_in, IntWalk.i64_quo]))
    | (refine guardK_split (fun h => ?_) (fun h => ?_) <;> (try simp (disch := first | omega | (simp only [List.length_take, List.length_drop, List.length_append, List.length_cons, List.length_nil, List.length_map]; omega)) [h, IntWalk.i64_in, IntWalk.i64_quo]))
    | (refine condK_ndec (fun h => ?_) (fun h => ?_) <;> (try simp (disch := first | omega | (simp only [List.length_take, List.length_drop, List.length_append, List.length_cons, List.length_nil, List.length_map]; omega)) [h, IntWalk.i64_in, IntWalk.i64_quo]))
    | (refine condK_dec (fun h => ?_) (fun h => ?_) <;> (try simp (disch := first | omega | (simp only [List.length_take, List.length_drop, List.length_append, List.length_cons, List.length_nil, List.length_map]; omega)) [h, IntWalk.i64_in, IntWalk.i64_quo]))
    | (refine condK_nbeq (fun h => ?_) (fun h => ?_) <;> (try simp (disch := first | omega | (simp only [List.length_take, List.length_drop, List.length_append, List.length_cons, List.length_nil, List.length_map]; omega)) [h, IntWalk.i64_in, IntWalk.i64_quo]))
    | (refine condK_beq (fun h => ?_) (fun h => ?_) <;> (try simp (disch := first | omega | (simp only [List.length_take, List.length_drop, List.length_append, List.length_cons, List.length_nil, List.length_map]; omega)) [h, IntWalk.i64_in, IntWalk.i64_quo]))
    | (refine condK_bne (fun h => ?_) (fun h => ?_) <;> (try simp (disch := first | omega | (simp only [List.length_take, List.length_drop, List.length_append, List.length_cons, List.length_nil, List.length_map]; omega)) [h, IntWalk.i64_in, IntWalk.i64_quo]))
    | (refine condK_not (fun h => ?_) (fun h => ?_) <;> (try simp (disch := first | omega | (simp only [List.length_take, List.length_drop, List.length_append, List.length_cons, List.length_nil, List.length_map]; omega)) [h, IntWalk.i64_in, IntWalk.i64_quo]))
    | (refine condK_split (fun h => ?_) (fun h => ?_) <;> (try simp (disch := first | omega | (simp only [List.length_take, List.length_drop, List.length_append, List.length_cons, List.length_nil, List.length_map]; omega)) [h, IntWalk.i64_in, IntWalk.i64_quo]))
  all_goals (simp [suchC, *])
theorem suchC_facts {s t f : Int} {n : Nm} (h : suchC s t f n = true) : (0 ≤ s ∧ s ≤ 7) ∧ (1 ≤ t ∧ t ≤ 4) ∧ (1 ≤ f ∧ f ≤ 4) ∧ f ≠ t ∧ named n = true := by
  simp only [suchC, Bool.and_eq_true, within_iff, decide_eq_true_eq] at h
  exact ⟨h.1.1.1.1, h.1.1.1.2, h.1.1.2, h.1.2, h.2⟩
attribute [irreducible] suchC
noncomputable def D4 : Orc := D3.add 60 (tab (fun x : Int × Int × Int × Int × Int × Int => [.agg [.int .i64 x.1, .int .i64 x.2.1], .int .i64 x.2.2.1, .agg [.int .i64 x.2.2.2.1, .int .i64 x.2.2.2.2.1, .int .i64 x.2.2.2.2.2]]) (fun x => .bool (suchC x.1 x.2.1 x.2.2.1 ⟨x.2.2.2.1, x.2.2.2.2.1, x.2.2.2.2.2⟩)) fun x => True)
theorem D4s : OSound Try.prog D4 := D3s.tab fun x h st => suchC_spec x.1 x.2.1 x.2.2.1 ⟨x.2.2.2.1, x.2.2.2.2.1, x.2.2.2.2.2⟩ st
@[simp] theorem D4_60 (s : Int) (t : Int) (f : Int) (a : Int) (b : Int) (c : Int) : D4 60 [.agg [.int .i64 s, .int .i64 t], .int .i64 f, .agg [.int .i64 a, .int .i64 b, .int .i64 c]] = some (.bool (suchC s t f ⟨a, b, c⟩)) := by
  rw [D4, Orc.add_same]
  exact tab_eq (fun x y h => by simp at h; simp [h]) (x := (s, t, f, a, b, c)) trivial
@[simp] theorem D4_o (f : Nat) (args : List AV) (h : f ≠ 60) : D4 f args = D3 f args := by
  rw [D4, Orc.add_other _ _ _ _ _ h]
def checkM (m : Mv) : Bool :=
  if m.ph = 0 then decide (m = zMv)
  else if m.ph = 1 then suchC m.stripe m.to m.fr m.nm && within m.n 1 4 && decide ((m.vals.length : Int) = m.n - 1)
  else if m.ph = 2 then suchC m.stripe m.to m.fr m.nm && within m.n 1 4 && decide ((m.vals.length : Int) = m.n) && decide (m.n = 4)
  else false
def eOf (b : Bool) : Int := if b then 0 else 2
theorem check_spec (m : Mv) (hl : m.vals.length ≤ 1048576) (st : St) : ASpec Try.prog 18 [.agg (mvC m)] st fun v st' => v = .int .i64 (eOf (checkM m)) ∧ st' = st := by
  refine pure_of (R := fun v => v = _) D4s F18 rfl ?_
  unfold checkM eOf
  by_cases h0 : m.ph = 0
  · simp (disch := first | omega | (simp only [List.length_take, List.length_drop, List.length_append, List.length_cons, List.length_nil, List.length_map]; omega)) [IntWalk.i64_in, IntWalk.i64_quo, c18, hl, h0]
    repeat' first
      | (refine region_static rfl (by decide +kernel) ?_; try simp (disch := first | omega | (simp only [List.length_take, List.length_drop, List.length_append, List.length_cons, List.length_nil, List.length_map]; omega)) [IntWalk.i64_in, IntWalk.i64_quo])
      | (refine And.intro (by omega) ?_; try simp (disch := first | omega | (simp only [List.length_take, List.length_drop, List.length_append, List.length_cons, List.length_nil, List.length_map]; omega)) [IntWalk.i64_in, IntWalk.i64_quo])
      | (refine guardK_ndec (fun h => ?_) (fun h => ?_) <;> (try simp (disch := first | omega | (simp only [List.length_take, List.length_drop, List.length_append, List.length_cons, List.length_nil, List.length_map]; omega)) [h, IntWalk.i64_in, IntWalk.i64_quo]))
      | (refine guardK_dec (fun h => ?_) (fun h => ?_) <;> (try simp (disch := first | omega | (simp only [List.length_take, List.length_drop, List.length_append, List.length_cons, List.length_nil, List.length_map]; omega)) [h, IntWalk.i64_in, IntWalk.i64_quo]))
      | (refine guardK_nbeq (fun h => ?_) (fun h => ?_) <;> (try simp (disch := first | omega | (simp only [List.length_take, List.length_drop, List.length_append, List.length_cons, List.length_nil, List.length_map]; omega)) [h, IntWalk.i64_in, IntWalk.i64_quo]))
      | (refine guardK_beq (fun h => ?_) (fun h => ?_) <;> (try simp (disch := first | omega | (simp only [List.length_take, List.length_drop, List.length_append, List.length_cons, List.length_nil, List.length_map]; omega)) [h, IntWalk.i64_in, IntWalk.i64_quo]))
      | (refine guardK_bne (fun h => ?_) (fun h => ?_) <;> (try simp (disch := first | omega | (simp only [List.length_take, List.length_drop, List.length_append, List.length_cons, List.length_nil, List.length_map]; omega)) [h, IntWalk.i64_in, IntWalk.i64_quo]))
      | (refine guardK_not (fun h => ?_) (fun h => ?_) <;> (try simp (disch := first | omega | (simp only [List.length_take, List.length_drop, List.length_append, List.length_cons, List.length_nil, List.length_map]; omega)) [h, IntWalk.i64_in, IntWalk.i64_quo]))
      | (refine guardK_split (fun h => ?_) (fun h => ?_) <;> (try simp (disch := first | omega | (simp only [List.length_take, List.length_drop, List.length_append, List.length_cons, List.length_nil, List.length_map]; omega)) [h, IntWalk.i64_in, IntWalk.i64_quo]))
      | (refine condK_ndec (fun h => ?_) (fun h => ?_) <;> (try simp (disch := first | omega | (simp only [List.length_take, List.length_drop, List.length_append, List.length_cons, List.length_nil, List.length_map]; omega)) [h, IntWalk.i64_in, IntWalk.i64_quo]))
      | (refine condK_dec (fun h => ?_) (fun h => ?_) <;> (try simp (disch := first | omega | (simp only [List.length_take, List.length_drop, List.length_append, List.length_cons, List.length_nil, List.length_map]; omega)) [h, IntWalk.i64_in, IntWalk.i64_quo]))
      | (refine condK_nbeq (fun h => ?_) (fun h => ?_) <;> (try simp (disch := first | omega | (simp only [List.length_take, List.length_drop, List.length_append, List.length_cons, List.length_nil, List.length_map]; omega)) [h, IntWalk.i64_in, IntWalk.i64_quo]))
      | (refine condK_beq (fun h => ?_) (fun h => ?_) <;> (try simp (disch := first | omega | (simp only [List.length_take, List.length_drop, List.length_append, List.length_cons, List.length_nil, List.length_map]; omega)) [h, IntWalk.i64_in, IntWalk.i64_quo]))
      | (refine condK_bne (fun h => ?_) (fun h => ?_) <;> (try simp (disch := first | omega | (simp only [List.length_take, List.length_drop, List.length_append, List.length_cons, List.length_nil, List.length_map]; omega)) [h, IntWalk.i64_in, IntWalk.i64_quo]))
      | (refine condK_not (fun h => ?_) (fun h => ?_) <;> (try simp (disch := first | omega | (simp only [List.length_take, List.length_drop, List.length_append, List.length_cons, List.length_nil, List.length_map]; omega)) [h, IntWalk.i64_in, IntWalk.i64_quo]))
      | (refine condK_split (fun h => ?_) (fun h => ?_) <;> (try simp (disch := first | omega | (simp only [List.length_take, List.length_drop, List.length_append, List.length_cons, List.length_nil, List.length_map]; omega)) [h, IntWalk.i64_in, IntWalk.i64_quo]))
    all_goals
      have he : Mv.mk 0 m.nm m.stripe m.to m.fr m.n m.vals = m := by rw [← h0]
      rw [he] at h
      simpa using h
  by_cases h1 : m.ph = 1
  · by_cases hw : within m.n 1 4 = true
    · have hb := within_iff.1 hw
      simp (disch := first | omega | (simp only [List.length_take, List.length_drop, List.length_append, List.length_cons, List.length_nil, List.length_map]; omega)) [IntWalk.i64_in, IntWalk.i64_quo, c18, hl, h1, hw]
      repeat' first
        | (refine region_static rfl (by decide +kernel) ?_; try simp (disch := first | omega | (simp only [List.length_take, List.length_drop, List.length_append, List.length_cons, List.length_nil, List.length_map]; omega)) [IntWalk.i64_in, IntWalk.i64_quo])
        | (refine And.intro (by omega) ?_; try simp (disch := first | omega | (simp only [List.length_take, List.length_drop, List.length_append, List.length_cons, List.length_nil, List.length_map]; omega)) [IntWalk.i64_in, IntWalk.i64_quo])
        | (refine guardK_ndec (fun h => ?_) (fun h => ?_) <;> (try simp (disch := first | omega | (simp only [List.length_take, List.length_drop, List.length_append, List.length_cons, List.length_nil, List.length_map]; omega)) [h, IntWalk.i64_in, IntWalk.i64_quo]))
        | (refine guardK_dec (fun h => ?_) (fun h => ?_) <;> (try simp (disch := first | omega | (simp only [List.length_take, List.length_drop, List.length_append, List.length_cons, List.length_nil, List.length_map]; omega)) [h, IntWalk.i64_in, IntWalk.i64_quo]))
        | (refine guardK_nbeq (fun h => ?_) (fun h => ?_) <;> (try simp (disch := first | omega | (simp only [List.length_take, List.length_drop, List.length_append, List.length_cons, List.length_nil, List.length_map]; omega)) [h, IntWalk.i64_in, IntWalk.i64_quo]))
        | (refine guardK_beq (fun h => ?_) (fun h => ?_) <;> (try simp (disch := first | omega | (simp only [List.length_take, List.length_drop, List.length_append, List.length_cons, List.length_nil, List.length_map]; omega)) [h, IntWalk.i64_in, IntWalk.i64_quo]))
        | (refine guardK_bne (fun h => ?_) (fun h => ?_) <;> (try simp (disch := first | omega | (simp only [List.length_take, List.length_drop, List.length_append, List.length_cons, List.length_nil, List.length_map]; omega)) [h, IntWalk.i64_in, IntWalk.i64_quo]))
        | (refine guardK_not (fun h => ?_) (fun h => ?_) <;> (try simp (disch := first | omega | (simp only [List.length_take, List.length_drop, List.length_append, List.length_cons, List.length_nil, List.length_map]; omega)) [h, IntWalk.i64_in, IntWalk.i64_quo]))
        | (refine guardK_split (fun h => ?_) (fun h => ?_) <;> (try simp (disch := first | omega | (simp only [List.length_take, List.length_drop, List.length_append, List.length_cons, List.length_nil, List.length_map]; omega)) [h, IntWalk.i64_in, IntWalk.i64_quo]))
        | (refine condK_ndec (fun h => ?_) (fun h => ?_) <;> (try simp (disch := first | omega | (simp only [List.length_take, List.length_drop, List.length_append, List.length_cons, List.length_nil, List.length_map]; omega)) [h, IntWalk.i64_in, IntWalk.i64_quo]))
        | (refine condK_dec (fun h => ?_) (fun h => ?_) <;> (try simp (disch := first | omega | (simp only [List.length_take, List.length_drop, List.length_append, List.length_cons, List.length_nil, List.length_map]; omega)) [h, IntWalk.i64_in, IntWalk.i64_quo]))
        | (refine condK_nbeq (fun h => ?_) (fun h => ?_) <;> (try simp (disch := first | omega | (simp only [List.length_take, List.length_drop, List.length_append, List.length_cons, List.length_nil, List.length_map]; omega)) [h, IntWalk.i64_in, IntWalk.i64_quo]))
        | (refine condK_beq (fun h => ?_) (fun h => ?_) <;> (try simp (disch := first | omega | (simp only [List.length_take, List.length_drop, List.length_append, List.length_cons, List.length_nil, List.length_map]; omega)) [h, IntWalk.i64_in, IntWalk.i64_quo]))
        | (refine condK_bne (fun h => ?_) (fun h => ?_) <;> (try simp (disch := first | omega | (simp only [List.length_take, List.length_drop, List.length_append, List.length_cons, List.length_nil, List.length_map]; omega)) [h, IntWalk.i64_in, IntWalk.i64_quo]))
        | (refine condK_not (fun h => ?_) (fun h => ?_) <;> (try simp (disch := first | omega | (simp only [List.length_take, List.length_drop, List.length_append, List.length_cons, List.length_nil, List.length_map]; omega)) [h, IntWalk.i64_in, IntWalk.i64_quo]))
        | (refine condK_split (fun h => ?_) (fun h => ?_) <;> (try simp (disch := first | omega | (simp only [List.length_take, List.length_drop, List.length_append, List.length_cons, List.length_nil, List.length_map]; omega)) [h, IntWalk.i64_in, IntWalk.i64_quo]))
      all_goals simp_all
    · simp (disch := first | omega | (simp only [List.length_take, List.length_drop, List.length_append, List.length_cons, List.length_nil, List.length_map]; omega)) [IntWalk.i64_in, IntWalk.i64_quo, c18, hl, h1, hw]
      repeat' first
        | (refine region_static rfl (by decide +kernel) ?_; try simp (disch := first | omega | (simp only [List.length_take, List.length_drop, List.length_append, List.length_cons, List.length_nil, List.length_map]; omega)) [IntWalk.i64_in, IntWalk.i64_quo])
        | (refine And.intro (by omega) ?_; try simp (disch := first | omega | (simp only [List.length_take, List.length_drop, List.length_append, List.length_cons, List.length_nil, List.length_map]; omega)) [IntWalk.i64_in, IntWalk.i64_quo])
        | (refine guardK_ndec (fun h => ?_) (fun h => ?_) <;> (try simp (disch := first | omega | (simp only [List.length_take, List.length_drop, List.length_append, List.length_cons, List.length_nil, List.length_map]; omega)) [h, IntWalk.i64_in, IntWalk.i64_quo]))
        | (refine guardK_dec (fun h => ?_) (fun h => ?_) <;> (try simp (disch := first | omega | (simp only [List.length_take, List.length_drop, List.length_append, List.length_cons, List.length_nil, List.length_map]; omega)) [h, IntWalk.i64_in, IntWalk.i64_quo]))
        | (refine guardK_nbeq (fun h => ?_) (fun h => ?_) <;> (try simp (disch := first | omega | (simp only [List.length_take, List.length_drop, List.length_append, List.length_cons, List.length_nil, List.length_map]; omega)) [h, IntWalk.i64_in, IntWalk.i64_quo]))
        | (refine guardK_beq (fun h => ?_) (fun h => ?_) <;> (try simp (disch := first | omega | (simp only [List.length_take, List.length_drop, List.length_append, List.length_cons, List.length_nil, List.length_map]; omega)) [h, IntWalk.i64_in, IntWalk.i64_quo]))
        | (refine guardK_bne (fun h => ?_) (fun h => ?_) <;> (try simp (disch := first | omega | (simp only [List.length_take, List.length_drop, List.length_append, List.length_cons, List.length_nil, List.length_map]; omega)) [h, IntWalk.i64_in, IntWalk.i64_quo]))
        | (refine guardK_not (fun h => ?_) (fun h => ?_) <;> (try simp (disch := first | omega | (simp only [List.length_take, List.length_drop, List.length_append, List.length_cons, List.length_nil, List.length_map]; omega)) [h, IntWalk.i64_in, IntWalk.i64_quo]))
        | (refine guardK_split (fun h => ?_) (fun h => ?_) <;> (try simp (disch := first | omega | (simp only [List.length_take, List.length_drop, List.length_append, List.length_cons, List.length_nil, List.length_map]; omega)) [h, IntWalk.i64_in, IntWalk.i64_quo]))
        | (refine condK_ndec (fun h => ?_) (fun h => ?_) <;> (try simp (disch := first | omega | (simp only [List.length_take, List.length_drop, List.length_append, List.length_cons, List.length_nil, List.length_map]; omega)) [h, IntWalk.i64_in, IntWalk.i64_quo]))
        | (refine condK_dec (fun h => ?_) (fun h => ?_) <;> (try simp (disch := first | omega | (simp only [List.length_take, List.length_drop, List.length_append, List.length_cons, List.length_nil, List.length_map]; omega)) [h, IntWalk.i64_in, IntWalk.i64_quo]))
        | (refine condK_nbeq (fun h => ?_) (fun h => ?_) <;> (try simp (disch := first | omega | (simp only [List.length_take, List.length_drop, List.length_append, List.length_cons, List.length_nil, List.length_map]; omega)) [h, IntWalk.i64_in, IntWalk.i64_quo]))
        | (refine condK_beq (fun h => ?_) (fun h => ?_) <;> (try simp (disch := first | omega | (simp only [List.length_take, List.length_drop, List.length_append, List.length_cons, List.length_nil, List.length_map]; omega)) [h, IntWalk.i64_in, IntWalk.i64_quo]))
        | (refine condK_bne (fun h => ?_) (fun h => ?_) <;> (try simp (disch := first | omega | (simp only [List.length_take, List.length_drop, List.length_append, List.length_cons, List.length_nil, List.length_map]; omega)) [h, IntWalk.i64_in, IntWalk.i64_quo]))
        | (refine condK_not (fun h => ?_) (fun h => ?_) <;> (try simp (disch := first | omega | (simp only [List.length_take, List.length_drop, List.length_append, List.length_cons, List.length_nil, List.length_map]; omega)) [h, IntWalk.i64_in, IntWalk.i64_quo]))
        | (refine condK_split (fun h => ?_) (fun h => ?_) <;> (try simp (disch := first | omega | (simp only [List.length_take, List.length_drop, List.length_append, List.length_cons, List.length_nil, List.length_map]; omega)) [h, IntWalk.i64_in, IntWalk.i64_quo]))
      all_goals simp_all
  by_cases h2 : m.ph = 2
  · simp (disch := first | omega | (simp only [List.length_take, List.length_drop, List.length_append, List.length_cons, List.length_nil, List.length_map]; omega)) [IntWalk.i64_in, IntWalk.i64_quo, c18, hl, h2]
    repeat' first
      | (refine region_static rfl (by decide +kernel) ?_; try simp (disch := first | omega | (simp only [List.length_take, List.length_drop, List.length_append, List.length_cons, List.length_nil, List.length_map]; omega)) [IntWalk.i64_in, IntWalk.i64_quo])
      | (refine And.intro (by omega) ?_; try simp (disch := first | omega | (simp only [List.length_take, List.length_drop, List.length_append, List.length_cons, List.length_nil, List.length_map]; omega)) [IntWalk.i64_in, IntWalk.i64_quo])
      | (refine guardK_ndec (fun h => ?_) (fun h => ?_) <;> (try simp (disch := first | omega | (simp only [List.length_take, List.length_drop, List.length_append, List.length_cons, List.length_nil, List.length_map]; omega)) [h, IntWalk.i64_in, IntWalk.i64_quo]))
      | (refine guardK_dec (fun h => ?_) (fun h => ?_) <;> (try simp (disch := first | omega | (simp only [List.length_take, List.length_drop, List.length_append, List.length_cons, List.length_nil, List.length_map]; omega)) [h, IntWalk.i64_in, IntWalk.i64_quo]))
      | (refine guardK_nbeq (fun h => ?_) (fun h => ?_) <;> (try simp (disch := first | omega | (simp only [List.length_take, List.length_drop, List.length_append, List.length_cons, List.length_nil, List.length_map]; omega)) [h, IntWalk.i64_in, IntWalk.i64_quo]))
      | (refine guardK_beq (fun h => ?_) (fun h => ?_) <;> (try simp (disch := first | omega | (simp only [List.length_take, List.length_drop, List.length_append, List.length_cons, List.length_nil, List.length_map]; omega)) [h, IntWalk.i64_in, IntWalk.i64_quo]))
      | (refine guardK_bne (fun h => ?_) (fun h => ?_) <;> (try simp (disch := first | omega | (simp only [List.length_take, List.length_drop, List.length_append, List.length_cons, List.length_nil, List.length_map]; omega)) [h, IntWalk.i64_in, IntWalk.i64_quo]))
      | (refine guardK_not (fun h => ?_) (fun h => ?_) <;> (try simp (disch := first | omega | (simp only [List.length_take, List.length_drop, List.length_append, List.length_cons, List.length_nil, List.length_map]; omega)) [h, IntWalk.i64_in, IntWalk.i64_quo]))
      | (refine guardK_split (fun h => ?_) (fun h => ?_) <;> (try simp (disch := first | omega | (simp only [List.length_take, List.length_drop, List.length_append, List.length_cons, List.length_nil, List.length_map]; omega)) [h, IntWalk.i64_in, IntWalk.i64_quo]))
      | (refine condK_ndec (fun h => ?_) (fun h => ?_) <;> (try simp (disch := first | omega | (simp only [List.length_take, List.length_drop, List.length_append, List.length_cons, List.length_nil, List.length_map]; omega)) [h, IntWalk.i64_in, IntWalk.i64_quo]))
      | (refine condK_dec (fun h => ?_) (fun h => ?_) <;> (try simp (disch := first | omega | (simp only [List.length_take, List.length_drop, List.length_append, List.length_cons, List.length_nil, List.length_map]; omega)) [h, IntWalk.i64_in, IntWalk.i64_quo]))
      | (refine condK_nbeq (fun h => ?_) (fun h => ?_) <;> (try simp (disch := first | omega | (simp only [List.length_take, List.length_drop, List.length_append, List.length_cons, List.length_nil, List.length_map]; omega)) [h, IntWalk.i64_in, IntWalk.i64_quo]))
      | (refine condK_beq (fun h => ?_) (fun h => ?_) <;> (try simp (disch := first | omega | (simp only [List.length_take, List.length_drop, List.length_append, List.length_cons, List.length_nil, List.length_map]; omega)) [h, IntWalk.i64_in, IntWalk.i64_quo]))
      | (refine condK_bne (fun h => ?_) (fun h => ?_) <;> (try simp (disch := first | omega | (simp only [List.length_take, List.length_drop, List.length_append, List.length_cons, List.length_nil, List.length_map]; omega)) [h, IntWalk.i64_in, IntWalk.i64_quo]))
      | (refine condK_not (fun h => ?_) (fun h => ?_) <;> (try simp (disch := first | omega | (simp only [List.length_take, List.length_drop, List.length_append, List.length_cons, List.length_nil, List.length_map]; omega)) [h, IntWalk.i64_in, IntWalk.i64_quo]))
      | (refine condK_split (fun h => ?_) (fun h => ?_) <;> (try simp (disch := first | omega | (simp only [List.length_take, List.length_drop, List.length_append, List.length_cons, List.length_nil, List.length_map]; omega)) [h, IntWalk.i64_in, IntWalk.i64_quo]))
    all_goals simp_all
  simp (disch := first | omega | (simp only [List.length_take, List.length_drop, List.length_append, List.length_cons, List.length_nil, List.length_map]; omega)) [IntWalk.i64_in, IntWalk.i64_quo, c18, hl, h0, h1, h2]
end Go.Proofs.Ytjceilhmgbdgiaa

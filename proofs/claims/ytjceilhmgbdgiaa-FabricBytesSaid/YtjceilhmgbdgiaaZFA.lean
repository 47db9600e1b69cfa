/- Fabrics: plain data; Check, Put, Take, Twice. -/
import Derived.Test.YtjceilhmgbdgiaaZAB
import Derived.Test.YtjceilhmgbdgiaaZAD
import Derived.Test.YtjceilhmgbdgiaaZAF
import Derived.Test.YtjceilhmgbdgiaaZCodeF
set_option linter.all false
namespace Go.Proofs.Ytjceilhmgbdgiaa
open Go.Am

def msA (m : Ms) : AV := .agg (msC m)
def mls (l : List Ms) : List AV := l.map msA
@[simp] theorem mls_length (l : List Ms) : (mls l).length = l.length := by simp [mls]
@[simp] theorem mls_nil : mls [] = [] := rfl
@[simp] theorem mls_get (l : List Ms) (i : Nat) : (mls l)[i]? = l[i]?.map fun m => .agg (msC m) := by
  rw [mls, List.getElem?_map]
  rfl
@[simp] theorem mls_allSz (l : List Ms) : allSz 24 (mls l) = true := allSz_map _ _ _ fun _ => rfl
@[simp] theorem mls_norm (l : List Ms) : normL (mls l) = mls l := normL_map _ _ fun x => by simp [msA]
@[simp] theorem mls_ok (l : List Ms) (n m : Nat) : okL n m (mls l) = true := okL_map _ _ fun x _ => by simp [msA]
@[simp] theorem mls_take (l : List Ms) (n : Nat) : (mls l).take n = mls (l.take n) := by simp [mls, List.map_take]
@[simp] theorem mls_drop (l : List Ms) (n : Nat) : (mls l).drop n = mls (l.drop n) := by simp [mls, List.map_drop]
@[simp] theorem mls_app (a b : List Ms) : mls a ++ mls b = mls (a ++ b) := by simp [mls]
@[simp] theorem mls_snoc (l : List Ms) (m : Ms) : mls l ++ [.agg [.int .i8 m.kind, .int .i64 m.fr, .int .i64 m.to, .int .i64 m.inc, .int .i64 m.your, .int .i64 m.nm.stamp, .int .i64 m.nm.inc, .int .i64 m.nm.tr, .int .i64 m.n, .int .i8 m.op, .int .i64 m.block, u8 m.val.v0, u8 m.val.v1, u8 m.val.v2, u8 m.val.v3, u8 m.val.v4, u8 m.val.v5, u8 m.val.v6, u8 m.val.v7, .int .i64 m.e, .bool m.yes, .int .i64 m.give, .int .i64 m.take, .sl .any (wrs m.ws)]] = mls (l ++ [m]) := by simp [mls, msA]
theorem mls_inj {a b : List Ms} : mls a = mls b ↔ a = b := by
  refine ⟨fun h => (List.map_inj_right (fun a b e => ?_)).1 h, fun h => h ▸ rfl⟩
  obtain ⟨a1, a2, a3, a4, a5, ⟨a6, a7, a8⟩, a9, a10, a11, ⟨a12, a13, a14, a15, a16, a17, a18, a19⟩, a20, a21, a22, a23, a24⟩ := a
  obtain ⟨b1, b2, b3, b4, b5, ⟨b6, b7, b8⟩, b9, b10, b11, ⟨b12, b13, b14, b15, b16, b17, b18, b19⟩, b20, b21, b22, b23, b24⟩ := b
  simp [msA] at e
  simp [e]
attribute [simp] mls_inj
/-- No message has too many writes to be walked. -/
def okW (l : List Ms) : Prop := ∀ m ∈ l, m.ws.length ≤ 1048576
@[simp] theorem okW_nil : okW [] := by simp [okW]
theorem okW_get {l : List Ms} (h : okW l) {i : Nat} (hi : i < l.length) : l[i].ws.length ≤ 1048576 := h _ (List.getElem_mem hi)
noncomputable def G1 : Orc := T16.add 64 (tab (fun x : Int × Int × Int × Int × Int × Int × Int × Int × Int × Int × Int × UInt8 × UInt8 × UInt8 × UInt8 × UInt8 × UInt8 × UInt8 × UInt8 × Int × Bool × Int × Int × List Wr => [.agg [.int .i8 x.1, .int .i64 x.2.1, .int .i64 x.2.2.1, .int .i64 x.2.2.2.1, .int .i64 x.2.2.2.2.1, .int .i64 x.2.2.2.2.2.1, .int .i64 x.2.2.2.2.2.2.1, .int .i64 x.2.2.2.2.2.2.2.1, .int .i64 x.2.2.2.2.2.2.2.2.1, .int .i8 x.2.2.2.2.2.2.2.2.2.1, .int .i64 x.2.2.2.2.2.2.2.2.2.2.1, u8 x.2.2.2.2.2.2.2.2.2.2.2.1, u8 x.2.2.2.2.2.2.2.2.2.2.2.2.1, u8 x.2.2.2.2.2.2.2.2.2.2.2.2.2.1, u8 x.2.2.2.2.2.2.2.2.2.2.2.2.2.2.1, u8 x.2.2.2.2.2.2.2.2.2.2.2.2.2.2.2.1, u8 x.2.2.2.2.2.2.2.2.2.2.2.2.2.2.2.2.1, u8 x.2.2.2.2.2.2.2.2.2.2.2.2.2.2.2.2.2.1, u8 x.2.2.2.2.2.2.2.2.2.2.2.2.2.2.2.2.2.2.1, .int .i64 x.2.2.2.2.2.2.2.2.2.2.2.2.2.2.2.2.2.2.2.1, .bool x.2.2.2.2.2.2.2.2.2.2.2.2.2.2.2.2.2.2.2.2.1, .int .i64 x.2.2.2.2.2.2.2.2.2.2.2.2.2.2.2.2.2.2.2.2.2.1, .int .i64 x.2.2.2.2.2.2.2.2.2.2.2.2.2.2.2.2.2.2.2.2.2.2.1, .sl .any (wrs x.2.2.2.2.2.2.2.2.2.2.2.2.2.2.2.2.2.2.2.2.2.2.2)]]) (fun x => .bool (mayM ⟨x.1, x.2.1, x.2.2.1, x.2.2.2.1, x.2.2.2.2.1, ⟨x.2.2.2.2.2.1, x.2.2.2.2.2.2.1, x.2.2.2.2.2.2.2.1⟩, x.2.2.2.2.2.2.2.2.1, x.2.2.2.2.2.2.2.2.2.1, x.2.2.2.2.2.2.2.2.2.2.1, ⟨x.2.2.2.2.2.2.2.2.2.2.2.1, x.2.2.2.2.2.2.2.2.2.2.2.2.1, x.2.2.2.2.2.2.2.2.2.2.2.2.2.1, x.2.2.2.2.2.2.2.2.2.2.2.2.2.2.1, x.2.2.2.2.2.2.2.2.2.2.2.2.2.2.2.1, x.2.2.2.2.2.2.2.2.2.2.2.2.2.2.2.2.1, x.2.2.2.2.2.2.2.2.2.2.2.2.2.2.2.2.2.1, x.2.2.2.2.2.2.2.2.2.2.2.2.2.2.2.2.2.2.1⟩, x.2.2.2.2.2.2.2.2.2.2.2.2.2.2.2.2.2.2.2.1, x.2.2.2.2.2.2.2.2.2.2.2.2.2.2.2.2.2.2.2.2.1, x.2.2.2.2.2.2.2.2.2.2.2.2.2.2.2.2.2.2.2.2.2.1, x.2.2.2.2.2.2.2.2.2.2.2.2.2.2.2.2.2.2.2.2.2.2.1, x.2.2.2.2.2.2.2.2.2.2.2.2.2.2.2.2.2.2.2.2.2.2.2⟩)) fun x => x.2.2.2.2.2.2.2.2.2.2.2.2.2.2.2.2.2.2.2.2.2.2.2.length ≤ 1048576)
theorem G1s : OSound Try.prog G1 := T16s.tab fun x h st => may_spec ⟨x.1, x.2.1, x.2.2.1, x.2.2.2.1, x.2.2.2.2.1, ⟨x.2.2.2.2.2.1, x.2.2.2.2.2.2.1, x.2.2.2.2.2.2.2.1⟩, x.2.2.2.2.2.2.2.2.1, x.2.2.2.2.2.2.2.2.2.1, x.2.2.2.2.2.2.2.2.2.2.1, ⟨x.2.2.2.2.2.2.2.2.2.2.2.1, x.2.2.2.2.2.2.2.2.2.2.2.2.1, x.2.2.2.2.2.2.2.2.2.2.2.2.2.1, x.2.2.2.2.2.2.2.2.2.2.2.2.2.2.1, x.2.2.2.2.2.2.2.2.2.2.2.2.2.2.2.1, x.2.2.2.2.2.2.2.2.2.2.2.2.2.2.2.2.1, x.2.2.2.2.2.2.2.2.2.2.2.2.2.2.2.2.2.1, x.2.2.2.2.2.2.2.2.2.2.2.2.2.2.2.2.2.2.1⟩, x.2.2.2.2.2.2.2.2.2.2.2.2.2.2.2.2.2.2.2.1, x.2.2.2.2.2.2.2.2.2.2.2.2.2.2.2.2.2.2.2.2.1, x.2.2.2.2.2.2.2.2.2.2.2.2.2.2.2.2.2.2.2.2.2.1, x.2.2.2.2.2.2.2.2.2.2.2.2.2.2.2.2.2.2.2.2.2.2.1, x.2.2.2.2.2.2.2.2.2.2.2.2.2.2.2.2.2.2.2.2.2.2.2⟩ h st
@[simp] theorem G1_64 (k : Int) (fr : Int) (to : Int) (inc : Int) (yo : Int) (a : Int) (b : Int) (c : Int) (n : Int) (op : Int) (bl : Int) (v0 : UInt8) (v1 : UInt8) (v2 : UInt8) (v3 : UInt8) (v4 : UInt8) (v5 : UInt8) (v6 : UInt8) (v7 : UInt8) (e : Int) (y : Bool) (g : Int) (t : Int) (ws : List Wr) (h : ws.length ≤ 1048576) : G1 64 [.agg [.int .i8 k, .int .i64 fr, .int .i64 to, .int .i64 inc, .int .i64 yo, .int .i64 a, .int .i64 b, .int .i64 c, .int .i64 n, .int .i8 op, .int .i64 bl, u8 v0, u8 v1, u8 v2, u8 v3, u8 v4, u8 v5, u8 v6, u8 v7, .int .i64 e, .bool y, .int .i64 g, .int .i64 t, .sl .any (wrs ws)]] = some (.bool (mayM ⟨k, fr, to, inc, yo, ⟨a, b, c⟩, n, op, bl, ⟨v0, v1, v2, v3, v4, v5, v6, v7⟩, e, y, g, t, ws⟩)) := by
  rw [G1, Orc.add_same]
  exact tab_eq (fun x y h => by simp at h; simp [h]) (x := (k, fr, to, inc, yo, a, b, c, n, op, bl, v0, v1, v2, v3, v4, v5, v6, v7, e, y, g, t, ws)) h
@[simp] theorem G1_o (f : Nat) (args : List AV) (h : f ≠ 64) : G1 f args = T16 f args := by
  rw [G1, Orc.add_other _ _ _ _ _ h]
def checkF (l : List Ms) : Bool := decide (l.length ≤ 200) && l.all mayM
theorem fcheck_spec (l : List Ms) (hw : okW l) (hl : l.length ≤ 1048576) (st : St) : ASpec Try.prog 41 [.agg [.sl .any (mls l)]] st fun v st' => v = .int .i64 (if checkF l = true then 0 else 2) ∧ st' = st := by
  refine pure_of (R := fun v => v = _) G1s F41 rfl ?_
  by_cases hg : 200 < l.length
  · have hg' : (200 : Int) < l.length := by omega
    have hc : ¬ checkF l = true := by simp [checkF]; omega
    simp (disch := first | omega | assumption | (simp only [LL]; omega)) [WW, c41, hg', hc]
  have hg' : ¬ (200 : Int) < l.length := by omega
  simp (disch := first | omega | assumption | (simp only [LL]; omega)) [WW, c41, hg']
  refine awC_loopW (fun k env s => ∃ i g gt, k + i = l.length ∧ env 10 = .sl .any (mls l) ∧ env 11 = .int .i64 l.length ∧ env 12 = .int .i64 i ∧ s = ⟨st.heap ++ g, st.toks ++ gt⟩ ∧ (l.take i).all mayM = true) l.length ?_ ?_
  · exact ⟨0, [], [], by simp⟩
  rintro k env s ⟨i, g, gt, hk, e10, e11, e12, rfl, hm⟩
  by_cases hi : i < l.length
  case neg =>
    have hi' : ¬ (i : Int) < l.length := by omega
    rw [List.take_of_length_le (by omega)] at hm
    have hc : checkF l = true := by rw [checkF, hm]; simp; omega
    simp (disch := first | omega | assumption | (simp only [LL]; omega)) [WW, e10, e11, e12, hi', hc]
  have hi' : (i : Int) < l.length := by omega
  have hwi := okW_get hw hi
  by_cases hmi : mayM l[i] = true
  · simp (disch := first | omega | assumption | (simp only [LL]; omega)) [WW, e10, e11, e12, hi, hi', hmi, hwi]
    refine ⟨k - 1, by omega, i + 1, by omega, by omega, ?_⟩
    rw [List.take_succ_eq_append_getElem hi]
    intro x hx
    rcases List.mem_append.1 hx with h | h
    · exact List.all_eq_true.1 hm x h
    · rw [List.mem_singleton.1 h]; exact hmi
  · have hc : ¬ checkF l = true := by
      intro h
      simp only [checkF, Bool.and_eq_true, List.all_eq_true] at h
      exact hmi (h.2 _ (List.getElem_mem hi))
    simp (disch := first | omega | assumption | (simp only [LL]; omega)) [WW, e10, e11, e12, hi, hi', hmi, hwi, hc]
noncomputable def G2 : Orc := G1.add 41 (tab (fun x : List Ms => [.agg [.sl .any (mls x)]]) (fun x => .int .i64 (if checkF x = true then 0 else 2)) fun x => okW x ∧ x.length ≤ 1048576)
theorem G2s : OSound Try.prog G2 := G1s.tab fun x h st => fcheck_spec x h.1 h.2 st
@[simp] theorem G2_41 (l : List Ms) (h : okW l ∧ l.length ≤ 1048576) : G2 41 [.agg [.sl .any (mls l)]] = some (.int .i64 (if checkF l = true then 0 else 2)) := by
  rw [G2, Orc.add_same]
  exact tab_eq (fun x y h => by simp at h; simp [h]) (x := (l)) h
@[simp] theorem G2_o (f : Nat) (args : List AV) (h : f ≠ 41) : G2 f args = G1 f args := by
  rw [G2, Orc.add_other _ _ _ _ _ h]
attribute [irreducible] okW
theorem checkF_len {l : List Ms} (h : checkF l = true) : l.length ≤ 200 := by
  simp only [checkF, Bool.and_eq_true, decide_eq_true_eq] at h
  exact h.1
def fputF (l : List Ms) (m : Ms) : List Ms × Int := if checkF l = true ∧ mayM m = true then (if l.length = 200 then ([], 50) else (l ++ [m], 0)) else ([], 2)
theorem fput_spec (l : List Ms) (m : Ms) (hw : okW l) (hm : m.ws.length ≤ 1048576) (hl : l.length ≤ 1048576) (st : St) : ASpec Try.prog 42 [.agg [.sl .any (mls l)], .agg (msC m)] st fun v st' => v = .tup [.agg [.sl .any (mls (fputF l m).1)], .int .i64 (fputF l m).2] ∧ st' = st := by
  refine pure_of (R := fun v => v = _) G2s F42 rfl ?_
  unfold fputF
  have hc2 : okW l ∧ l.length ≤ 1048576 := ⟨hw, hl⟩
  by_cases hc : checkF l = true
  case neg =>
    simp (disch := first | omega | assumption | (simp only [LL]; omega)) [WW, c42, hc]
  by_cases hmm : mayM m = true
  case neg =>
    simp (disch := first | omega | assumption | (simp only [LL]; omega)) [WW, c42, hc, hmm]
  have hlen := checkF_len hc
  by_cases h2 : l.length = 200
  · have h2' : (l.length : Int) = 200 := by omega
    simp (disch := first | omega | assumption | (simp only [LL]; omega)) [WW, c42, hc, hmm, h2]
  · have h2' : ¬ (l.length : Int) = 200 := by omega
    have ht : (mls l).take l.length = mls l := List.take_of_length_le (by simp)
    simp (disch := first | omega | assumption | (simp only [LL]; omega)) [WW, c42, hc, hmm, h2, h2']
    refine region_static rfl (by decide +kernel) ?_
    simp (disch := first | omega | assumption | (simp only [LL]; omega)) [WW, c42, hc, hmm, h2, h2', ht, List.take_of_length_le]
    omega
noncomputable def G3 : Orc := G2.add 42 (tab (fun x : List Ms × Int × Int × Int × Int × Int × Int × Int × Int × Int × Int × Int × UInt8 × UInt8 × UInt8 × UInt8 × UInt8 × UInt8 × UInt8 × UInt8 × Int × Bool × Int × Int × List Wr => [.agg [.sl .any (mls x.1)], .agg [.int .i8 x.2.1, .int .i64 x.2.2.1, .int .i64 x.2.2.2.1, .int .i64 x.2.2.2.2.1, .int .i64 x.2.2.2.2.2.1, .int .i64 x.2.2.2.2.2.2.1, .int .i64 x.2.2.2.2.2.2.2.1, .int .i64 x.2.2.2.2.2.2.2.2.1, .int .i64 x.2.2.2.2.2.2.2.2.2.1, .int .i8 x.2.2.2.2.2.2.2.2.2.2.1, .int .i64 x.2.2.2.2.2.2.2.2.2.2.2.1, u8 x.2.2.2.2.2.2.2.2.2.2.2.2.1, u8 x.2.2.2.2.2.2.2.2.2.2.2.2.2.1, u8 x.2.2.2.2.2.2.2.2.2.2.2.2.2.2.1, u8 x.2.2.2.2.2.2.2.2.2.2.2.2.2.2.2.1, u8 x.2.2.2.2.2.2.2.2.2.2.2.2.2.2.2.2.1, u8 x.2.2.2.2.2.2.2.2.2.2.2.2.2.2.2.2.2.1, u8 x.2.2.2.2.2.2.2.2.2.2.2.2.2.2.2.2.2.2.1, u8 x.2.2.2.2.2.2.2.2.2.2.2.2.2.2.2.2.2.2.2.1, .int .i64 x.2.2.2.2.2.2.2.2.2.2.2.2.2.2.2.2.2.2.2.2.1, .bool x.2.2.2.2.2.2.2.2.2.2.2.2.2.2.2.2.2.2.2.2.2.1, .int .i64 x.2.2.2.2.2.2.2.2.2.2.2.2.2.2.2.2.2.2.2.2.2.2.1, .int .i64 x.2.2.2.2.2.2.2.2.2.2.2.2.2.2.2.2.2.2.2.2.2.2.2.1, .sl .any (wrs x.2.2.2.2.2.2.2.2.2.2.2.2.2.2.2.2.2.2.2.2.2.2.2.2)]]) (fun x => .tup [.agg [.sl .any (mls (fputF x.1 ⟨x.2.1, x.2.2.1, x.2.2.2.1, x.2.2.2.2.1, x.2.2.2.2.2.1, ⟨x.2.2.2.2.2.2.1, x.2.2.2.2.2.2.2.1, x.2.2.2.2.2.2.2.2.1⟩, x.2.2.2.2.2.2.2.2.2.1, x.2.2.2.2.2.2.2.2.2.2.1, x.2.2.2.2.2.2.2.2.2.2.2.1, ⟨x.2.2.2.2.2.2.2.2.2.2.2.2.1, x.2.2.2.2.2.2.2.2.2.2.2.2.2.1, x.2.2.2.2.2.2.2.2.2.2.2.2.2.2.1, x.2.2.2.2.2.2.2.2.2.2.2.2.2.2.2.1, x.2.2.2.2.2.2.2.2.2.2.2.2.2.2.2.2.1, x.2.2.2.2.2.2.2.2.2.2.2.2.2.2.2.2.2.1, x.2.2.2.2.2.2.2.2.2.2.2.2.2.2.2.2.2.2.1, x.2.2.2.2.2.2.2.2.2.2.2.2.2.2.2.2.2.2.2.1⟩, x.2.2.2.2.2.2.2.2.2.2.2.2.2.2.2.2.2.2.2.2.1, x.2.2.2.2.2.2.2.2.2.2.2.2.2.2.2.2.2.2.2.2.2.1, x.2.2.2.2.2.2.2.2.2.2.2.2.2.2.2.2.2.2.2.2.2.2.1, x.2.2.2.2.2.2.2.2.2.2.2.2.2.2.2.2.2.2.2.2.2.2.2.1, x.2.2.2.2.2.2.2.2.2.2.2.2.2.2.2.2.2.2.2.2.2.2.2.2⟩).1)], .int .i64 (fputF x.1 ⟨x.2.1, x.2.2.1, x.2.2.2.1, x.2.2.2.2.1, x.2.2.2.2.2.1, ⟨x.2.2.2.2.2.2.1, x.2.2.2.2.2.2.2.1, x.2.2.2.2.2.2.2.2.1⟩, x.2.2.2.2.2.2.2.2.2.1, x.2.2.2.2.2.2.2.2.2.2.1, x.2.2.2.2.2.2.2.2.2.2.2.1, ⟨x.2.2.2.2.2.2.2.2.2.2.2.2.1, x.2.2.2.2.2.2.2.2.2.2.2.2.2.1, x.2.2.2.2.2.2.2.2.2.2.2.2.2.2.1, x.2.2.2.2.2.2.2.2.2.2.2.2.2.2.2.1, x.2.2.2.2.2.2.2.2.2.2.2.2.2.2.2.2.1, x.2.2.2.2.2.2.2.2.2.2.2.2.2.2.2.2.2.1, x.2.2.2.2.2.2.2.2.2.2.2.2.2.2.2.2.2.2.1, x.2.2.2.2.2.2.2.2.2.2.2.2.2.2.2.2.2.2.2.1⟩, x.2.2.2.2.2.2.2.2.2.2.2.2.2.2.2.2.2.2.2.2.1, x.2.2.2.2.2.2.2.2.2.2.2.2.2.2.2.2.2.2.2.2.2.1, x.2.2.2.2.2.2.2.2.2.2.2.2.2.2.2.2.2.2.2.2.2.2.1, x.2.2.2.2.2.2.2.2.2.2.2.2.2.2.2.2.2.2.2.2.2.2.2.1, x.2.2.2.2.2.2.2.2.2.2.2.2.2.2.2.2.2.2.2.2.2.2.2.2⟩).2]) fun x => okW x.1 ∧ x.1.length ≤ 1048576 ∧ x.2.2.2.2.2.2.2.2.2.2.2.2.2.2.2.2.2.2.2.2.2.2.2.2.length ≤ 1048576)
theorem G3s : OSound Try.prog G3 := G2s.tab fun x h st => fput_spec x.1 ⟨x.2.1, x.2.2.1, x.2.2.2.1, x.2.2.2.2.1, x.2.2.2.2.2.1, ⟨x.2.2.2.2.2.2.1, x.2.2.2.2.2.2.2.1, x.2.2.2.2.2.2.2.2.1⟩, x.2.2.2.2.2.2.2.2.2.1, x.2.2.2.2.2.2.2.2.2.2.1, x.2.2.2.2.2.2.2.2.2.2.2.1, ⟨x.2.2.2.2.2.2.2.2.2.2.2.2.1, x.2.2.2.2.2.2.2.2.2.2.2.2.2.1, x.2.2.2.2.2.2.2.2.2.2.2.2.2.2.1, x.2.2.2.2.2.2.2.2.2.2.2.2.2.2.2.1, x.2.2.2.2.2.2.2.2.2.2.2.2.2.2.2.2.1, x.2.2.2.2.2.2.2.2.2.2.2.2.2.2.2.2.2.1, x.2.2.2.2.2.2.2.2.2.2.2.2.2.2.2.2.2.2.1, x.2.2.2.2.2.2.2.2.2.2.2.2.2.2.2.2.2.2.2.1⟩, x.2.2.2.2.2.2.2.2.2.2.2.2.2.2.2.2.2.2.2.2.1, x.2.2.2.2.2.2.2.2.2.2.2.2.2.2.2.2.2.2.2.2.2.1, x.2.2.2.2.2.2.2.2.2.2.2.2.2.2.2.2.2.2.2.2.2.2.1, x.2.2.2.2.2.2.2.2.2.2.2.2.2.2.2.2.2.2.2.2.2.2.2.1, x.2.2.2.2.2.2.2.2.2.2.2.2.2.2.2.2.2.2.2.2.2.2.2.2⟩ h.1 h.2.2 h.2.1 st
@[simp] theorem G3_42 (l : List Ms) (k : Int) (fr : Int) (to : Int) (inc : Int) (yo : Int) (a : Int) (b : Int) (c : Int) (n : Int) (op : Int) (bl : Int) (v0 : UInt8) (v1 : UInt8) (v2 : UInt8) (v3 : UInt8) (v4 : UInt8) (v5 : UInt8) (v6 : UInt8) (v7 : UInt8) (e : Int) (y : Bool) (g : Int) (t : Int) (ws : List Wr) (h : okW l ∧ l.length ≤ 1048576 ∧ ws.length ≤ 1048576) : G3 42 [.agg [.sl .any (mls l)], .agg [.int .i8 k, .int .i64 fr, .int .i64 to, .int .i64 inc, .int .i64 yo, .int .i64 a, .int .i64 b, .int .i64 c, .int .i64 n, .int .i8 op, .int .i64 bl, u8 v0, u8 v1, u8 v2, u8 v3, u8 v4, u8 v5, u8 v6, u8 v7, .int .i64 e, .bool y, .int .i64 g, .int .i64 t, .sl .any (wrs ws)]] = some (.tup [.agg [.sl .any (mls (fputF l ⟨k, fr, to, inc, yo, ⟨a, b, c⟩, n, op, bl, ⟨v0, v1, v2, v3, v4, v5, v6, v7⟩, e, y, g, t, ws⟩).1)], .int .i64 (fputF l ⟨k, fr, to, inc, yo, ⟨a, b, c⟩, n, op, bl, ⟨v0, v1, v2, v3, v4, v5, v6, v7⟩, e, y, g, t, ws⟩).2]) := by
  rw [G3, Orc.add_same]
  exact tab_eq (fun x y h => by simp at h; simp [h]) (x := (l, k, fr, to, inc, yo, a, b, c, n, op, bl, v0, v1, v2, v3, v4, v5, v6, v7, e, y, g, t, ws)) h
@[simp] theorem G3_o (f : Nat) (args : List AV) (h : f ≠ 42) : G3 f args = G2 f args := by
  rw [G3, Orc.add_other _ _ _ _ _ h]
def atF (l : List Ms) (n : Int) : Int := if checkF l = true then (if 0 ≤ n ∧ n < l.length then 0 else 4) else 2
theorem at_spec' (l : List Ms) (n : Int) (hw : okW l) (hl : l.length ≤ 1048576) (st : St) : ASpec Try.prog 97 [.agg [.sl .any (mls l)], .int .i64 n] st fun v st' => v = .int .i64 (atF l n) ∧ st' = st := by
  refine pure_of (R := fun v => v = _) G3s F97 rfl ?_
  unfold atF
  have hc2 : okW l ∧ l.length ≤ 1048576 := ⟨hw, hl⟩
  by_cases hc : checkF l = true
  case neg =>
    simp (disch := first | omega | assumption | (simp only [LL]; omega)) [WW, c97, hc]
  by_cases h0 : n < 0
  · have h1 : ¬ (0 ≤ n ∧ n < l.length) := by omega
    simp (disch := first | omega | assumption | (simp only [LL]; omega)) [WW, c97, hc, h0]
    omega
  by_cases h1 : n < l.length
  · have h2 : ¬ (l.length : Int) ≤ n := by omega
    have h3 : 0 ≤ n := by omega
    simp (disch := first | omega | assumption | (simp only [LL]; omega)) [WW, c97, hc, h0, h1, h2, h3]
  · have h2 : (l.length : Int) ≤ n := by omega
    simp (disch := first | omega | assumption | (simp only [LL]; omega)) [WW, c97, hc, h0, h1, h2]
noncomputable def G4 : Orc := G3.add 97 (tab (fun x : List Ms × Int => [.agg [.sl .any (mls x.1)], .int .i64 x.2]) (fun x => .int .i64 (atF x.1 x.2)) fun x => okW x.1 ∧ x.1.length ≤ 1048576)
theorem G4s : OSound Try.prog G4 := G3s.tab fun x h st => at_spec' x.1 x.2 h.1 h.2 st
@[simp] theorem G4_97 (l : List Ms) (n : Int) (h : okW l ∧ l.length ≤ 1048576) : G4 97 [.agg [.sl .any (mls l)], .int .i64 n] = some (.int .i64 (atF l n)) := by
  rw [G4, Orc.add_same]
  exact tab_eq (fun x y h => by simp at h; simp [h]) (x := (l, n)) h
@[simp] theorem G4_o (f : Nat) (args : List AV) (h : f ≠ 97) : G4 f args = G3 f args := by
  rw [G4, Orc.add_other _ _ _ _ _ h]
theorem atF_0 {l : List Ms} {n : Int} (h : atF l n = 0) : checkF l = true ∧ ∃ i : Nat, n = i ∧ i < l.length := by
  unfold atF at h
  split at h
  · rename_i hc
    split at h
    · exact ⟨hc, n.toNat, by omega, by omega⟩
    · cases h
  · cases h
theorem take_spec {l : List Ms} {i : Nat} (hc : checkF l = true) (hi : i < l.length) (hw : okW l) (st : St) : ASpec Try.prog 43 [.agg [.sl .any (mls l)], .int .i64 i] st fun v st' => v = .tup [.agg [.sl .any (mls (l.take i ++ l.drop (i + 1)))], .agg (msC l[i]), .int .i64 0] ∧ st' = st := by
  refine pure_of (R := fun v => v = _) G4s F43 rfl ?_
  have hlen := checkF_len hc
  have hc2 : okW l ∧ l.length ≤ 1048576 := ⟨hw, by omega⟩
  have ha : atF l i = 0 := by rw [atF, if_pos hc, if_pos ⟨by omega, by omega⟩]
  have hi' : (i : Int) ≤ l.length := by omega
  have hi2 : (i : Int) + 1 ≤ l.length := by omega
  simp (disch := first | omega | assumption | (simp only [LL]; omega)) [WW, c43, ha]
  refine region_stores [0, 1, 2, 3, 4, 5, 6, 7, 8, 9, 10, 11, 12, 13, 14, 15, 16, 17, 18, 19] (by decide +kernel) ?_
  simp (disch := first | omega | assumption | (simp only [LL]; omega)) [WW, hi, hi', hi2]
  exact ⟨by omega, by omega, List.take_of_length_le (by simp)⟩
theorem twice_spec {l : List Ms} {i : Nat} (hc : checkF l = true) (hi : i < l.length) (hw : okW l) (st : St) : ASpec Try.prog 45 [.agg [.sl .any (mls l)], .int .i64 i] st fun v st' => v = .tup [.agg [.sl .any (mls (fputF l l[i]).1)], .int .i64 (fputF l l[i]).2] ∧ st' = st := by
  refine pure_of (R := fun v => v = _) G4s F45 rfl ?_
  have hlen := checkF_len hc
  have hwi := okW_get hw hi
  have hc2 : okW l ∧ l.length ≤ 1048576 := ⟨hw, by omega⟩
  have hc3 : okW l ∧ l.length ≤ 1048576 ∧ l[i].ws.length ≤ 1048576 := ⟨hw, by omega, hwi⟩
  have ha : atF l i = 0 := by rw [atF, if_pos hc, if_pos ⟨by omega, by omega⟩]
  simp (disch := first | omega | assumption | (simp only [LL]; omega)) [WW, c45, ha]
  refine region_static rfl (by decide +kernel) ?_
  simp (disch := first | omega | assumption | (simp only [LL]; omega)) [WW, hi]
theorem twice_no {l : List Ms} {n : Int} (ha : ¬ atF l n = 0) (hl : l.length ≤ 1048576) (hw : okW l) (st : St) : ASpec Try.prog 45 [.agg [.sl .any (mls l)], .int .i64 n] st fun v st' => v = .tup [.agg [.sl .any []], .int .i64 (atF l n)] ∧ st' = st := by
  refine pure_of (R := fun v => v = _) G4s F45 rfl ?_
  have hc2 : okW l ∧ l.length ≤ 1048576 := ⟨hw, hl⟩
  simp (disch := first | omega | assumption | (simp only [LL]; omega)) [WW, c45, ha]
end Go.Proofs.Ytjceilhmgbdgiaa

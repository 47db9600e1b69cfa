/- Messages: what the program's writes read. -/
import Derived.Test.YtjceilhmgbdgiaaZG
set_option linter.all false
namespace Go.Proofs.Ytjceilhmgbdgiaa
open Go.Am

theorem two_facts2 {g x : Nat} {h : List Blk} {a b : Blk} (hne : g ≠ x) (hg : h[g]? = some a) (hx : h[x]? = some b) :
    (∀ v w k, ((h.set g v).set x w ++ k)[g]? = some v) ∧ (∀ v w k, ((h.set g v).set x w ++ k)[x]? = some w) ∧
    (∀ v w k u, ((h.set g v).set x w ++ k).set g u = (h.set g u).set x w ++ k) ∧ (∀ v w k u, ((h.set g v).set x w ++ k).set x u = (h.set g v).set x u ++ k) := by
  have hgl := (List.getElem?_eq_some_iff.1 hg).1
  have hxl := (List.getElem?_eq_some_iff.1 hx).1
  obtain ⟨p1, p2, p3, p4⟩ := two_facts hne hg hx
  refine ⟨fun v w k => ?_, fun v w k => ?_, fun v w k u => ?_, fun v w k u => ?_⟩
  · rw [List.getElem?_append_left (by simpa using hgl)]; exact p2 _ _
  · rw [List.getElem?_append_left (by simpa using hxl)]; exact p3 _ _
  · rw [List.set_append_left _ _ (by simpa using hgl), p4]
  · rw [List.set_append_left _ _ (by simpa using hxl), List.set_set]
theorem set_same {h : List Blk} {g : Nat} {b : Blk} (hl : h[g]? = some b) : h.set g b = h := by
  refine List.ext_getElem? fun i => ?_
  by_cases h1 : g = i
  · subst h1; rw [List.getElem?_set_self (List.getElem?_eq_some_iff.1 hl).1, hl]
  · rw [List.getElem?_set_ne h1]
/-- The bytes of the writes behind the first i. -/
def wr (ws : List Wr) (i : Nat) : List UInt8 := ((ws.drop i).map wb).flatten
theorem wr_succ (ws : List Wr) {i : Nat} (h : i < ws.length) : wr ws i = numB 1 ws[i].block ++ (vlB ⟨ws[i].v0, ws[i].v1, ws[i].v2, ws[i].v3, ws[i].v4, ws[i].v5, ws[i].v6, ws[i].v7⟩ ++ wr ws (i + 1)) := by
  rw [wr, List.drop_eq_getElem_cons h]
  rfl
theorem wr_end (ws : List Wr) : wr ws ws.length = [] := by simp [wr]
theorem wr_0 (ws : List Wr) : wr ws 0 = (ws.map wb).flatten := rfl
theorem wr_len (ws : List Wr) (i : Nat) : (wr ws i).length ≤ 9 * ws.length := by
  rw [wr, wb_len]; simp; omega
attribute [irreducible] wr
/-- The slice's mark and the marks behind i writes. -/
def tkW (st : St) (i : Nat) : Tok := if i = 0 then .clip else .own st.toks.length
def tksW (st : St) (i : Nat) : List (Nat × Nat) := if i = 0 then st.toks else st.toks ++ [(i, 9)]
def GWI (r l : Nat) (x : Ms) (ws : List Wr) (t : List UInt8) (st : St) (j : Nat) (env : Env) (s : St) : Prop :=
  ∃ i g, j + i = ws.length ∧ env 0 = .ptr r 0 ∧ env 1 = .ptr l 0 ∧ env 4 = .int .i64 j ∧ s = ⟨(st.heap.set r (gB (wr ws i ++ t, false))).set l (mBt (tkW st i) { x with ws := ws.take i }) ++ g, tksW st i⟩
theorem get_writes {m x : Ms} (hx : x.ws = []) (hw : m.ws.length ≤ 8) (hbl : ∀ w ∈ m.ws, 0 ≤ w.block ∧ w.block ≤ 255) {r l : Nat} {t : List UInt8} {st : St} (hne : r ≠ l) (hs : t.length ≤ 900000) (hr : st.heap[r]? = some (gB (wsB m.ws ++ t, false))) (hl : st.heap[l]? = some (mBt .clip x)) :
    ASpec Try.prog 208 [.ptr r 0, .ptr l 0] st fun v st' => v = .tup [] ∧ ∃ g, st' = ⟨(st.heap.set r (gB (t, false))).set l (mBt (tkW st m.ws.length) (setF .writes m x)) ++ g, tksW st m.ws.length⟩ := by
  refine raw_of C3s F208 rfl ?_
  obtain ⟨p1, p2, p3, p4⟩ := two_facts hne hr hl
  obtain ⟨q1, q2, q3, q4⟩ := two_facts2 hne hr hl
  have hM : ∀ t m, mBt t m = .cells false [.int .i8 m.kind, .int .i64 m.fr, .int .i64 m.to, .int .i64 m.inc, .int .i64 m.your, .int .i64 m.nm.stamp, .int .i64 m.nm.inc, .int .i64 m.nm.tr, .int .i64 m.n, .int .i8 m.op, .int .i64 m.block, u8 m.val.v0, u8 m.val.v1, u8 m.val.v2, u8 m.val.v3, u8 m.val.v4, u8 m.val.v5, u8 m.val.v6, u8 m.val.v7, .int .i64 m.e, .bool m.yes, .int .i64 m.give, .int .i64 m.take, .sl t (wrs m.ws)] := fun _ _ => rfl
  have hG : ∀ s, gB s = .cells false [.sl .any (ofBytes s.1), .bool s.2] := fun _ => rfl
  have hws : wsB m.ws ++ t = numB 1 m.ws.length ++ (wr m.ws 0 ++ t) := by rw [wr_0]; rfl
  obtain ⟨ws, hwe⟩ : ∃ ws, m.ws = ws := ⟨_, rfl⟩
  rw [hws] at hr
  simp only [setF]
  rw [hwe] at hr hw hbl ⊢
  clear hws hwe
  simp (disch := first | omega | (simp only [LL]; omega)) [WW, c208]
  have hw0 := wr_len ws 0
  refine (num_get (many := 1) (by simp) (by simp [numB]; omega) (leV_1 (by omega)) hr).mono ?_
  rintro _ _ ⟨rfl, rfl⟩
  simp (disch := first | omega | (simp only [LL]; omega)) [WW]
  refine awC_loopW (GWI r l x ws t st) ws.length ?_ ?_
  · refine ⟨0, [], rfl, by simp, by simp, by simp, ?_⟩
    have : ({ x with ws := [] } : Ms) = x := by rw [← hx]
    simp [tkW, tksW, this, set_same (p1 _)]
  clear hr hl
  rintro j env s ⟨i, g, hj, e0, e1, e4, rfl⟩
  have hwl := wr_len ws i
  by_cases hi : i < ws.length
  · have hj' : 0 < j := by omega
    have hwl1 := wr_len ws (i + 1)
    have hb0 := hbl ws[i] (List.getElem_mem hi)
    have hsu := wr_succ ws hi
    rw [hG]
    simp (disch := first | omega | (simp only [LL]; omega)) [WW, e0, e1, e4, hj', q1]
    have hG2 : ∀ a b, Blk.cells false [.sl .any (ofBytes a), .bool b] = gB (a, b) := fun _ _ => rfl
    rw [hG2, hsu]
    generalize hv : (⟨ws[i].v0, ws[i].v1, ws[i].v2, ws[i].v3, ws[i].v4, ws[i].v5, ws[i].v6, ws[i].v7⟩ : Vl) = vv
    have hlv : (vlB vv).length = 8 := rfl
    simp only [List.append_assoc]
    refine (num_get (many := 1) (n := ws[i].block) (t := vlB vv ++ (wr ws (i + 1) ++ t)) (by simp) (by simp [numB, hlv]; omega) (leV_1 (by omega)) (q1 _ _ _)).mono ?_
    rintro _ _ ⟨rfl, rfl⟩
    simp (disch := first | omega | (simp only [LL]; omega)) [WW, e0, e1, e4, hj', q1, q3]
    have q5 : ∀ v w k y, ((st.heap.set r v).set l w ++ (k ++ [y]))[st.heap.length + k.length]? = some y := fun v w k y => by
      rw [← List.append_assoc, List.getElem?_append_right (by simp)]; simp
    have q6 : ∀ v w k y z, ((st.heap.set r v).set l w ++ (k ++ [y])).set (st.heap.length + k.length) z = (st.heap.set r v).set l w ++ (k ++ [z]) := fun v w k y z => by
      rw [← List.append_assoc, List.set_append_right _ _ (by simp)]; simp
    simp (disch := first | omega | (simp only [LL]; omega)) [WW, e0, e1, e4, hj', q1, q3, q5, q6]
    refine region_sized [] [] [200] [0, 1, 2, 3, 4] (by decide +kernel) ?_
    simp (disch := first | omega | (simp only [LL]; omega)) [WW, e0, e1, e4, hj', q1, q3, q5, q6]
    refine (take_ok (a := vlB vv) (t := wr ws (i + 1) ++ t) (by simp [hlv]; omega) (q1 _ _ _)).mono ?_
    rintro _ _ ⟨rfl, rfl⟩
    refine ⟨fun _ => ?_, ?_⟩
    · have := q1 (gB (vlB vv ++ (wr ws (i + 1) ++ t), false)) (mBt (tkW st i) { x with ws := ws.take i }) (g ++ [.cells false [.int .i64 ws[i].block, .int .u8 0, .int .u8 0, .int .u8 0, .int .u8 0, .int .u8 0, .int .u8 0, .int .u8 0, .int .u8 0]])
      rw [hG] at this ⊢
      refine sized_set this false _ ?_ _
      rfl
    rw [q3]
    simp (disch := first | omega | (simp only [LL]; omega)) [WW, e0, e1, e4, hj', q1, q3, q5, q6]
    refine region_static rfl (by decide +kernel) ?_
    rw [← hv]
    clear hv hlv hsu
    simp (disch := first | omega | (simp only [LL]; omega)) [WW, e0, e1, e4, hj', q2, q4, q5, q6, hM, vlB, ofBytes, setRange]
    by_cases h0 : i = 0
    · subst h0
      simp (disch := first | omega | (simp only [LL]; omega)) [WW, tkW, tksW]
      simp (disch := first | omega | (simp only [LL]; omega)) [WW, q2, q4, e0, e1, e4, hM]
      refine ⟨j - 1, by omega, 1, g ++ [.cells false (wrA ws[0]).cells], by omega, by simp [e0], by simp [e1], by simp; omega, ?_⟩
      have ht : ws.take 1 = [ws[0]] := by
        have := List.take_succ_eq_append_getElem hi
        simpa using this
      rw [ht, hM]
      rfl
    · simp (disch := first | omega | (simp only [LL]; omega)) [WW, tkW, tksW, h0]
      refine ⟨by omega, ?_⟩
      simp (disch := first | omega | (simp only [LL]; omega)) [WW, q2, q4, e0, e1, e4, hM]
      refine ⟨j - 1, by omega, i + 1, g ++ [.cells false (wrA ws[i]).cells], by omega, by simp [e0], by simp [e1], by simp; omega, ?_⟩
      rw [List.take_succ_eq_append_getElem hi, hM]
      simp only [wrs, List.map_append, List.map_cons, List.map_nil, tkW, tksW, if_neg h0, if_neg (show ¬ i + 1 = 0 by omega)]
      rfl
  · have hj' : ¬ 0 < j := by omega
    have hiw : i = ws.length := by omega
    subst hiw
    simp (disch := first | omega | (simp only [LL]; omega)) [WW, e0, e1, e4, hj']
    refine .inl ⟨by simp, by simp [tksW]; split <;> simp, rfl, ?_⟩
    simp [wr_end]
end Go.Proofs.Ytjceilhmgbdgiaa

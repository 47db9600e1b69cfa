/- Messages: the program's writer. -/
import Derived.Test.YtjceilhmgbdgiaaZC
import Derived.Test.YtjceilhmgbdgiaaZAmStat2
set_option linter.all false
namespace Go.Proofs.Ytjceilhmgbdgiaa
open Go.Am

def wB (k : Nat) (bs : List UInt8) : Blk := .cells false [.sl (.own k) (ofBytes bs)]
def nilW : Blk := .cells false [.sl .clip []]
def numB (many : Nat) (n : Int) : List UInt8 := if many = 1 then [UInt8.ofInt n] else if many = 2 then [UInt8.ofInt n, UInt8.ofInt (n / 256)] else [UInt8.ofInt n, UInt8.ofInt (n / 256), UInt8.ofInt (n / 256 / 256)]
theorem num_own {n : Int} {many w k : Nat} {bs : List UInt8} {st : St} (hm : many = 1 ∨ many = 2 ∨ many = 3) (hn : 0 ≤ n) (hw : st.heap[w]? = some (wB k bs)) (hk : st.toks[k]? = some (bs.length, 1)) (hb : bs.length ≤ 1000) :
    ASpec Try.prog 137 [.ptr w 0, .int .i64 n, .int .i64 many] st fun v st' => v = .tup [] ∧ st' = ⟨st.heap.set w (wB k (bs ++ numB many n)), st.toks.set k ((bs ++ numB many n).length, 1)⟩ := by
  refine raw_of C3s F137 rfl ?_
  obtain ⟨f1, f2, f3, f4, f5⟩ := at_facts hw
  have hW : ∀ bs, wB k bs = .cells false [.sl (.own k) (ofBytes bs)] := fun _ => rfl
  have hkl := (List.getElem?_eq_some_iff.1 hk).1
  have g1 : ∀ v, (st.toks.set k v)[k]? = some v := fun v => List.getElem?_set_self hkl
  clear hkl
  have n2 : 0 ≤ n / 256 := by omega
  have n3 : 0 ≤ n / 256 / 256 := by omega
  rw [hW] at hw
  simp (disch := first | omega | (simp only [LL]; omega)) [WW, c137]
  rcases hm with rfl | rfl | rfl
  · refine awC_loopU 2 ?_
    simp (disch := first | omega | (simp only [LL]; omega)) [WW, hw, hk, shr_i64]
    exact ⟨by omega, .inl ⟨by simp, by simp, rfl, by simp [numB, hW]⟩⟩
  · refine awC_loopU 3 ?_
    simp (disch := first | omega | (simp only [LL]; omega)) [WW, hw, hk, shr_i64, f3, g1]
    exact ⟨by omega, by omega, .inl ⟨by simp, by simp, rfl, by simp [numB, hW]⟩⟩
  · refine awC_loopU 4 ?_
    simp (disch := first | omega | (simp only [LL]; omega)) [WW, hw, hk, shr_i64, f3, g1]
    exact ⟨by omega, by omega, by omega, .inl ⟨by simp, by simp, rfl, by simp [numB, hW]⟩⟩
theorem ofBytes_3 (a b c : UInt8) : ofBytes [a, b, c] = [u8 a, u8 b, u8 c] := rfl
theorem num_nil {n : Int} {w : Nat} {h : List Blk} {tk : List (Nat × Nat)} (hn : 0 ≤ n) (hw : h[w]? = some nilW) :
    ASpec Try.prog 137 [.ptr w 0, .int .i64 n, .int .i64 3] ⟨h, tk⟩ fun v st' => v = .tup [] ∧ st' = ⟨h.set w (wB tk.length (numB 3 n)), tk ++ [(3, 1)]⟩ := by
  refine raw_of C3s F137 rfl ?_
  obtain ⟨f1, f2, f3, f4, f5⟩ := at_facts hw
  have n2 : 0 ≤ n / 256 := by omega
  have n3 : 0 ≤ n / 256 / 256 := by omega
  rw [nilW] at hw
  simp (disch := first | omega | (simp only [LL]; omega)) [WW, c137]
  refine awC_loopU 4 ?_
  simp (disch := first | omega | (simp only [LL]; omega)) [WW, hw, shr_i64, f3]
  exact .inl ⟨by simp, by simp, rfl, by simp [numB, wB, ofBytes_3]⟩
/-- A message's block. -/
def mB (m : Ms) : Blk := .cells false (msC m)
def vlB (v : Vl) : List UInt8 := [v.v0, v.v1, v.v2, v.v3, v.v4, v.v5, v.v6, v.v7]
def wb (w : Wr) : List UInt8 := [UInt8.ofInt w.block, w.v0, w.v1, w.v2, w.v3, w.v4, w.v5, w.v6, w.v7]
def wsB (l : List Wr) : List UInt8 := UInt8.ofInt l.length :: (l.map wb).flatten
def putF (f : Fd) (m : Ms) : List UInt8 :=
  match f with
  | .name => numB 3 m.nm.stamp ++ numB 3 m.nm.inc ++ numB 3 m.nm.tr
  | .n => numB 3 m.n
  | .block => numB 1 m.block
  | .op => numB 1 m.op
  | .value => vlB m.val
  | .e => numB 2 m.e
  | .yes => [if m.yes then 1 else 0]
  | .give => numB 1 m.give
  | .take => numB 1 m.take
  | .writes => wsB m.ws
/-- A field's writer f, behind what is written already. -/
def PutO (g : Nat) (caps : List AV) (m : Ms) (bs2 : List UInt8) : Prop := ∀ {w l k : Nat} {bs : List UInt8} {st : St}, l ≠ w → st.heap[w]? = some (wB k bs) → st.heap[l]? = some (mB m) → st.toks[k]? = some (bs.length, 1) → bs.length ≤ 500 →
    ASpec Try.prog g ([.ptr w 0, .ptr l 0] ++ caps) st fun v st' => v = .tup [] ∧ st' = ⟨st.heap.set w (wB k (bs ++ bs2)), st.toks.set k ((bs ++ bs2).length, 1)⟩
theorem at_spec (f off : Nat) (hf : (f = 194 ∧ off = 8) ∨ (f = 195 ∧ off = 10) ∨ (f = 205 ∧ off = 21) ∨ (f = 206 ∧ off = 22)) {l : Nat} (st : St) : ASpec Try.prog f [.ptr l 0] st fun v st' => v = .ptr l off ∧ st' = st := by
  rcases hf with ⟨rfl, rfl⟩ | ⟨rfl, rfl⟩ | ⟨rfl, rfl⟩ | ⟨rfl, rfl⟩
  · refine raw_of C3s F194 rfl ?_
    simp (disch := first | omega | (simp only [LL]; omega)) [WW, c194]
    exact .inl ⟨Nat.le_refl _, Nat.le_refl _, rfl, rfl⟩
  · refine raw_of C3s F195 rfl ?_
    simp (disch := first | omega | (simp only [LL]; omega)) [WW, c195]
    exact .inl ⟨Nat.le_refl _, Nat.le_refl _, rfl, rfl⟩
  · refine raw_of C3s F205 rfl ?_
    simp (disch := first | omega | (simp only [LL]; omega)) [WW, c205]
    exact .inl ⟨Nat.le_refl _, Nat.le_refl _, rfl, rfl⟩
  · refine raw_of C3s F206 rfl ?_
    simp (disch := first | omega | (simp only [LL]; omega)) [WW, c206]
    exact .inl ⟨Nat.le_refl _, Nat.le_refl _, rfl, rfl⟩
theorem put_num {m : Ms} {f off many : Nat} {n : Int} (hf : (f = 194 ∧ off = 8) ∨ (f = 195 ∧ off = 10) ∨ (f = 205 ∧ off = 21) ∨ (f = 206 ∧ off = 22)) (hC : C3 f = fun _ => none) (hm : many = 1 ∨ many = 2 ∨ many = 3) (hn : 0 ≤ n) (ho : (msC m)[off]? = some (.int .i64 n)) :
    PutO 190 [.rptr (fnA f), .rptr (.int .i64 many)] m (numB many n) := by
  intro w l k bs st hne hw hl hk hb
  refine raw_of C3s F190 rfl ?_
  simp (disch := first | omega | (simp only [LL]; omega)) [WW, c190]
  refine region_state [137] [0] [0, 1, 2, 6, 3, 4, 5, 7] (by decide +kernel) ?_
  simp (disch := first | omega | (simp only [LL]; omega)) [WW, hC]
  refine (at_spec f off hf _).mono ?_
  rintro _ _ ⟨rfl, rfl⟩
  refine ⟨fun _ => ⟨List.prefix_refl _, List.prefix_refl _⟩, ?_⟩
  have hM : mB m = .cells false (msC m) := rfl
  have hnum := num_own (n := n) hm hn hw hk (by omega)
  rw [hM] at hl
  rcases hf with ⟨rfl, rfl⟩ | ⟨rfl, rfl⟩ | ⟨rfl, rfl⟩ | ⟨rfl, rfl⟩
  all_goals
    simp at ho
    subst ho
    clear hn
    simp (disch := first | omega | (simp only [LL]; omega)) [WW, hl]
    refine hnum.mono ?_
    rintro _ _ ⟨rfl, rfl⟩
    simp (disch := first | omega | (simp only [LL]; omega)) [WW]
    exact .inl ⟨by simp, by simp, rfl, by simp⟩
theorem put_op {m : Ms} (hn : 0 ≤ m.op ∧ m.op ≤ 100) : PutO 196 [] m (numB 1 m.op) := by
  intro w l k bs st hne hw hl hk hb
  refine raw_of C3s F196 rfl ?_
  have hM : mB m = .cells false (msC m) := rfl
  have hw64 : IntKind.i64.wrap m.op = m.op := IntWalk.i64_in _ (by omega)
  rw [hM] at hl
  simp (disch := first | omega | (simp only [LL]; omega)) [WW, c196, hl, hw64]
  refine (num_own (many := 1) (by simp) hn.1 hw hk (by omega)).mono ?_
  rintro _ _ ⟨rfl, rfl⟩
  simp (disch := first | omega | (simp only [LL]; omega)) [WW]
  exact .inl ⟨by simp, by simp, rfl, by simp⟩
theorem put_e {m : Ms} (hn : 0 ≤ m.e) : PutO 201 [] m (numB 2 m.e) := by
  intro w l k bs st hne hw hl hk hb
  refine raw_of C3s F201 rfl ?_
  have hM : mB m = .cells false (msC m) := rfl
  rw [hM] at hl
  simp (disch := first | omega | (simp only [LL]; omega)) [WW, c201, hl]
  refine (num_own (many := 2) (by simp) hn hw hk (by omega)).mono ?_
  rintro _ _ ⟨rfl, rfl⟩
  simp (disch := first | omega | (simp only [LL]; omega)) [WW]
  exact .inl ⟨by simp, by simp, rfl, by simp⟩
theorem put_yes {m : Ms} : PutO 203 [] m [if m.yes then 1 else 0] := by
  intro w l k bs st hne hw hl hk hb
  refine raw_of C3s F203 rfl ?_
  have hM : mB m = .cells false (msC m) := rfl
  rw [hM] at hl
  cases hy : m.yes with
  | true =>
    simp (disch := first | omega | (simp only [LL]; omega)) [WW, c203, hl, hy]
    refine (num_own (n := 1) (many := 1) (by simp) (by omega) hw hk (by omega)).mono ?_
    rintro _ _ ⟨rfl, rfl⟩
    simp (disch := first | omega | (simp only [LL]; omega)) [WW]
    exact .inl ⟨by simp, by simp, rfl, by simp [numB]⟩
  | false =>
    simp (disch := first | omega | (simp only [LL]; omega)) [WW, c203, hl, hy]
    refine (num_own (n := 0) (many := 1) (by simp) (by omega) hw hk (by omega)).mono ?_
    rintro _ _ ⟨rfl, rfl⟩
    simp (disch := first | omega | (simp only [LL]; omega)) [WW]
    exact .inl ⟨by simp, by simp, rfl, by simp [numB]; rfl⟩
theorem put_value {m : Ms} : PutO 198 [] m (vlB m.val) := by
  intro w l k bs st hne hw hl hk hb
  refine raw_of C3s F198 rfl ?_
  have hM : mB m = .cells false (msC m) := rfl
  have hW : ∀ bs, wB k bs = .cells false [.sl (.own k) (ofBytes bs)] := fun _ => rfl
  rw [hM] at hl
  rw [hW] at hw
  simp (disch := first | omega | (simp only [LL]; omega)) [WW, c198]
  refine region_static rfl (by decide +kernel) ?_
  simp (disch := first | omega | (simp only [LL]; omega)) [WW, hl, hw, hk]
  rw [evA_appOwn _ _ _ _ (ofBytes (vlB m.val)) _ (by simp [srcEs, hl, chunk, ofBytes, vlB]; exact ⟨rfl, rfl, rfl, rfl, rfl, rfl, rfl, rfl⟩)]
  simp (disch := first | omega | (simp only [LL]; omega)) [WW, hk, hw]
  exact ⟨by show _ ≤ 2147483648; simp [vlB]; omega, .inl ⟨by simp, by simp, rfl, by simp [hW, vlB]⟩⟩
theorem wb_len (l : List Wr) : ((l.map wb).flatten).length = 9 * l.length := by
  induction l with
  | nil => rfl
  | cons w l ih => rw [List.map_cons, List.flatten_cons, List.length_append, ih]; simp [wb]; omega
theorem wb_step (l : List Wr) (i : Nat) (h : i < l.length) : ((l.take (i + 1)).map wb).flatten = ((l.take i).map wb).flatten ++ wb l[i] := by
  rw [List.take_succ_eq_append_getElem h, List.map_append, List.flatten_append]
  simp
/-- The first writes' bytes. -/
def wf (ws : List Wr) (i : Nat) : List UInt8 := ((ws.take i).map wb).flatten
theorem wf_0 (ws : List Wr) : wf ws 0 = [] := rfl
theorem wf_len (ws : List Wr) {i : Nat} (h : i ≤ ws.length) : (wf ws i).length = 9 * i := by rw [wf, wb_len]; simp; omega
theorem wf_succ (ws : List Wr) {i : Nat} (h : i < ws.length) : wf ws (i + 1) = wf ws i ++ wb ws[i] := wb_step ws i h
theorem wf_all (ws : List Wr) : wf ws ws.length = (ws.map wb).flatten := by rw [wf, List.take_length]
attribute [irreducible] wf
theorem fin_setK {st : St} {l : Nat} {b : Blk} {g : List Blk} {tk : List (Nat × Nat)} {vs : List AV} {R : AV → St → Prop} (ht : tk.length = st.toks.length) (hb : okBlk st.heap.length st.toks.length b = true) (hv : okL st.heap.length st.toks.length vs = true) (hR : R (one vs) ⟨st.heap.set l b, tk⟩) : finishR st vs ⟨st.heap.set l b ++ g, tk⟩ R := by
  refine .inr ⟨⟨st.heap.set l b, tk⟩, List.prefix_append _ _, List.prefix_refl _, by simp, ht.symm, fun l' b' h => ?_, by simpa [ht] using hv, hR⟩
  simp only [List.length_set, ht]
  rw [List.getElem?_set] at h
  split at h
  · split at h
    · injection h with h
      subst h
      exact .inr hb
    · cases h
  · exact .inl h
def WWI (w l k : Nat) (bs : List UInt8) (ws : List Wr) (st : St) (j : Nat) (env : Env) (s : St) : Prop :=
  ∃ i, j + i = ws.length ∧ env 0 = .ptr w 0 ∧ env 16 = .sl .any (wrs ws) ∧ env 17 = .int .i64 ws.length ∧ env 18 = .int .i64 i ∧
    (∃ g, s = ⟨st.heap.set w (wB k (bs ++ UInt8.ofInt ws.length :: wf ws i)) ++ g, st.toks.set k (bs.length + 1 + 9 * i, 1)⟩)
theorem put_writes {m : Ms} (hw8 : m.ws.length ≤ 8) (hbl : ∀ x ∈ m.ws, 0 ≤ x.block) : PutO 207 [] m (wsB m.ws) := by
  intro w l k bs st hne hw hl hk hb
  refine raw_of C3s F207 rfl ?_
  have hM : mB m = .cells false (msC m) := rfl
  obtain ⟨f1, f2, f3, f4, f5⟩ := at_facts hw
  have hkl := (List.getElem?_eq_some_iff.1 hk).1
  have g1 : ∀ v, (st.toks.set k v)[k]? = some v := fun v => List.getElem?_set_self hkl
  have p1 : ∀ v, (st.heap.set w v)[l]? = some (mB m) := fun v => by rw [List.getElem?_set_ne (Ne.symm hne)]; exact hl
  have hN : numB 1 (m.ws.length : Int) = [UInt8.ofInt m.ws.length] := rfl
  rw [hM] at hl p1
  simp (disch := first | omega | (simp only [LL]; omega)) [WW, c207, hl]
  refine (num_own (many := 1) (n := (m.ws.length : Int)) (by simp) (by omega) hw hk (by omega)).mono ?_
  rintro _ _ ⟨rfl, rfl⟩
  clear hl
  simp (disch := first | omega | (simp only [LL]; omega)) [WW, p1]
  rw [hN]
  obtain ⟨ws, hws⟩ : ∃ ws, m.ws = ws := ⟨_, rfl⟩
  rw [hws] at hw8 hbl ⊢
  clear p1 hM hN hws
  refine awC_loopW (WWI w l k bs ws st) ws.length ?_ ?_
  · exact ⟨0, rfl, by simp, by simp, by simp, by simp, [], by simp [wf_0]⟩
  rintro j env s ⟨i, hj, e0, e16, e17, e18, g, rfl⟩
  by_cases hi : i < ws.length
  · have hi' : (i : Int) < ws.length := by omega
    have hfl := wf_len ws (Nat.le_of_lt hi)
    have hb0 := hbl ws[i] (List.getElem_mem hi)
    clear hkl hk
    simp (disch := first | omega | (simp only [LL]; omega)) [WW, e0, e16, e17, e18, hi', hi, f3, g1]
    refine (num_own (many := 1) (n := ws[i].block) (by simp) hb0 (f2 _ _) (by simpa [hfl, Nat.add_assoc, Nat.add_comm] using g1 _) (by simp; omega)).mono ?_
    rintro _ _ ⟨rfl, rfl⟩
    have hW : ∀ b, wB k b = .cells false [.sl (.own k) (ofBytes b)] := fun _ => rfl
    have hO : ∀ x, numB 1 x = [UInt8.ofInt x] := fun _ => rfl
    have g2 : ∀ v x, (st.heap.set w v ++ (g ++ [x]))[st.heap.length + g.length]? = some x := fun v x => by
      rw [← List.append_assoc, List.getElem?_append_right (by simp)]
      simp
    simp (disch := first | omega | (simp only [LL]; omega)) [WW, e0, e16, e17, e18, f2, f5, g1, g2, hfl, hW, hO]
    repeat' first
      | (refine region_static rfl (by decide +kernel) ?_; try simp (disch := first | omega | (simp only [LL]; omega)) [WW, e0, e16, e17, e18, f2, f5, g1, g2, hfl, hW, hO])
      | (refine And.intro (by omega) ?_; try simp (disch := first | omega | (simp only [LL]; omega)) [WW, e0, e16, e17, e18, f2, f5, g1, g2, hfl, hW, hO])
      | (refine guardK_ndec (fun h => ?_) (fun h => ?_) <;> (try simp (disch := first | omega | (simp only [LL]; omega)) [h, WW, e0, e16, e17, e18, f2, f5, g1, g2, hfl, hW, hO]))
      | (refine guardK_dec (fun h => ?_) (fun h => ?_) <;> (try simp (disch := first | omega | (simp only [LL]; omega)) [h, WW, e0, e16, e17, e18, f2, f5, g1, g2, hfl, hW, hO]))
      | (refine guardK_nbeq (fun h => ?_) (fun h => ?_) <;> (try simp (disch := first | omega | (simp only [LL]; omega)) [h, WW, e0, e16, e17, e18, f2, f5, g1, g2, hfl, hW, hO]))
      | (refine guardK_beq (fun h => ?_) (fun h => ?_) <;> (try simp (disch := first | omega | (simp only [LL]; omega)) [h, WW, e0, e16, e17, e18, f2, f5, g1, g2, hfl, hW, hO]))
      | (refine guardK_bne (fun h => ?_) (fun h => ?_) <;> (try simp (disch := first | omega | (simp only [LL]; omega)) [h, WW, e0, e16, e17, e18, f2, f5, g1, g2, hfl, hW, hO]))
      | (refine guardK_not (fun h => ?_) (fun h => ?_) <;> (try simp (disch := first | omega | (simp only [LL]; omega)) [h, WW, e0, e16, e17, e18, f2, f5, g1, g2, hfl, hW, hO]))
      | (refine guardK_split (fun h => ?_) (fun h => ?_) <;> (try simp (disch := first | omega | (simp only [LL]; omega)) [h, WW, e0, e16, e17, e18, f2, f5, g1, g2, hfl, hW, hO]))
      | (refine condK_ndec (fun h => ?_) (fun h => ?_) <;> (try simp (disch := first | omega | (simp only [LL]; omega)) [h, WW, e0, e16, e17, e18, f2, f5, g1, g2, hfl, hW, hO]))
      | (refine condK_dec (fun h => ?_) (fun h => ?_) <;> (try simp (disch := first | omega | (simp only [LL]; omega)) [h, WW, e0, e16, e17, e18, f2, f5, g1, g2, hfl, hW, hO]))
      | (refine condK_nbeq (fun h => ?_) (fun h => ?_) <;> (try simp (disch := first | omega | (simp only [LL]; omega)) [h, WW, e0, e16, e17, e18, f2, f5, g1, g2, hfl, hW, hO]))
      | (refine condK_beq (fun h => ?_) (fun h => ?_) <;> (try simp (disch := first | omega | (simp only [LL]; omega)) [h, WW, e0, e16, e17, e18, f2, f5, g1, g2, hfl, hW, hO]))
      | (refine condK_bne (fun h => ?_) (fun h => ?_) <;> (try simp (disch := first | omega | (simp only [LL]; omega)) [h, WW, e0, e16, e17, e18, f2, f5, g1, g2, hfl, hW, hO]))
      | (refine condK_not (fun h => ?_) (fun h => ?_) <;> (try simp (disch := first | omega | (simp only [LL]; omega)) [h, WW, e0, e16, e17, e18, f2, f5, g1, g2, hfl, hW, hO]))
      | (refine condK_split (fun h => ?_) (fun h => ?_) <;> (try simp (disch := first | omega | (simp only [LL]; omega)) [h, WW, e0, e16, e17, e18, f2, f5, g1, g2, hfl, hW, hO]))
    rw [evA_appOwn _ _ _ _ (ofBytes [ws[i].v0, ws[i].v1, ws[i].v2, ws[i].v3, ws[i].v4, ws[i].v5, ws[i].v6, ws[i].v7]) _ (by simp [srcEs, g2, chunk, ofBytes]; exact ⟨rfl, rfl, rfl, rfl, rfl, rfl, rfl, rfl⟩)]
    simp (disch := first | omega | (simp only [LL]; omega)) [WW, e0, e16, e17, e18, f2, f5, g1, g2, hfl, hW, hO]
    have hs := wf_succ ws hi
    refine ⟨by show _ ≤ 2147483648; omega, j - 1, by omega, i + 1, by omega, by simp [e0], by simp [e16], by simp [e17], by simp, g ++ [.cells false [.int .i64 ws[i].block, u8 ws[i].v0, u8 ws[i].v1, u8 ws[i].v2, u8 ws[i].v3, u8 ws[i].v4, u8 ws[i].v5, u8 ws[i].v6, u8 ws[i].v7]], ?_⟩
    rw [hs, show bs.length + 1 + 9 * (i + 1) = bs.length + (9 * i + 1 + 1) + 8 by omega]
    rfl
  · have hi' : ¬ (i : Int) < ws.length := by omega
    have hiw : i = ws.length := by omega
    subst hiw
    have hfl := wf_len ws (Nat.le_refl _)
    simp (disch := first | omega | (simp only [LL]; omega)) [WW, e0, e16, e17, e18, hi']
    refine fin_setK (by simp) (by simp [okBlk, wB, hkl]) (by simp) ⟨rfl, ?_⟩
    rw [wsB, List.length_cons, wb_len, wf_all, show bs.length + 1 + 9 * ws.length = bs.length + (9 * ws.length + 1) by omega]
/-- The first field: the name, behind nothing. -/
theorem put_name {m : Ms} (hn : 0 ≤ m.nm.stamp ∧ 0 ≤ m.nm.inc ∧ 0 ≤ m.nm.tr) {w l : Nat} {h : List Blk} {tk : List (Nat × Nat)} (hne : l ≠ w) (hw : h[w]? = some nilW) (hl : h[l]? = some (mB m)) :
    ASpec Try.prog 192 [.ptr w 0, .ptr l 0] ⟨h, tk⟩ fun v st' => v = .tup [] ∧ st' = ⟨h.set w (wB tk.length (putF .name m)), tk ++ [(9, 1)]⟩ := by
  refine raw_of C3s F192 rfl ?_
  obtain ⟨f1, f2, f3, f4, f5⟩ := at_facts hw
  have hM : mB m = .cells false (msC m) := rfl
  rw [hM] at hl
  simp (disch := first | omega | (simp only [LL]; omega)) [WW, c192]
  refine region_static rfl (by decide +kernel) ?_
  simp (disch := first | omega | (simp only [LL]; omega)) [WW, hl]
  refine awC_loopU 4 ?_
  simp (disch := first | omega | (simp only [LL]; omega)) [WW]
  refine (num_nil hn.1 hw).mono ?_
  rintro _ _ ⟨rfl, rfl⟩
  clear hl hw
  simp (disch := first | omega | (simp only [LL]; omega)) [WW]
  refine (num_own (many := 3) (bs := numB 3 m.nm.stamp) (by simp) hn.2.1 (f3 _) (by simp [numB]) (by simp [numB])).mono ?_
  rintro _ _ ⟨rfl, rfl⟩
  simp (disch := first | omega | (simp only [LL]; omega)) [WW]
  refine (num_own (many := 3) (bs := numB 3 m.nm.stamp ++ numB 3 m.nm.inc) (by simp) hn.2.2 (by simpa using f3 _) (by simp [numB]) (by simp [numB])).mono ?_
  rintro _ _ ⟨rfl, rfl⟩
  simp (disch := first | omega | (simp only [LL]; omega)) [WW]
  exact .inl ⟨by simp, by simp, rfl, by simp [putF, numB]⟩
end Go.Proofs.Ytjceilhmgbdgiaa

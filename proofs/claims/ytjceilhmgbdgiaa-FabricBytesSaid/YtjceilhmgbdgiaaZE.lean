/- Messages: a body's bytes. -/
import Derived.Test.YtjceilhmgbdgiaaZD
set_option linter.all false
namespace Go.Proofs.Ytjceilhmgbdgiaa
open Go.Am

/-- What the writers ask of a message's field. -/
def okF (f : Fd) (m : Ms) : Prop :=
  match f with
  | .name => 0 ≤ m.nm.stamp ∧ 0 ≤ m.nm.inc ∧ 0 ≤ m.nm.tr
  | .n => 0 ≤ m.n
  | .block => 0 ≤ m.block
  | .op => 0 ≤ m.op ∧ m.op ≤ 100
  | .value => True
  | .e => 0 ≤ m.e
  | .yes => True
  | .give => 0 ≤ m.give
  | .take => 0 ≤ m.take
  | .writes => m.ws.length ≤ 8 ∧ ∀ x ∈ m.ws, 0 ≤ x.block
theorem put_call {f : Fd} {m : Ms} (hf : f ≠ .name) (ho : okF f m) {w l k : Nat} {bs : List UInt8} {st : St} {K : AV → St → Prop} (hne : l ≠ w) (hw : st.heap[w]? = some (wB k bs)) (hl : st.heap[l]? = some (mB m)) (hk : st.toks[k]? = some (bs.length, 1)) (hb : bs.length ≤ 500)
    (h : K (.tup []) ⟨st.heap.set w (wB k (bs ++ putF f m)), st.toks.set k ((bs ++ putF f m).length, 1)⟩) : callvK (orc Try.prog C3) [putV f, .ptr w 0, .ptr l 0] st K := by
  have go : ∀ {g : Nat} {caps : List AV}, PutO g caps m (putF f m) → ASpec Try.prog g ([.ptr w 0, .ptr l 0] ++ caps) st K := fun hp => (hp hne hw hl hk hb).mono (by rintro _ _ ⟨rfl, rfl⟩; exact h)
  cases f
  case name => exact absurd rfl hf
  case n => simp; exact go (put_num (many := 3) (.inl ⟨rfl, rfl⟩) (by funext a; simp) (by simp) ho rfl)
  case block => simp; exact go (put_num (many := 1) (.inr (.inl ⟨rfl, rfl⟩)) (by funext a; simp) (by simp) ho rfl)
  case op => simp; exact go (put_op ho)
  case value => simp; exact go put_value
  case e => simp; exact go (put_e ho)
  case yes => simp; exact go put_yes
  case give => simp; exact go (put_num (many := 1) (.inr (.inr (.inl ⟨rfl, rfl⟩))) (by funext a; simp) (by simp) ho rfl)
  case take => simp; exact go (put_num (many := 1) (.inr (.inr (.inr ⟨rfl, rfl⟩))) (by funext a; simp) (by simp) ho rfl)
  case writes => simp; exact go (put_writes ho.1 ho.2)
def catF (l : List Fd) (m : Ms) : List UInt8 := (l.map fun f => putF f m).flatten
theorem catF_succ (l : List Fd) (m : Ms) {i : Nat} (h : i < l.length) : catF (l.take (i + 1)) m = catF (l.take i) m ++ putF l[i] m := by
  rw [List.take_succ_eq_append_getElem h, catF, List.map_append, List.flatten_append]
  simp [catF]
@[simp] theorem fds_length (l : List Fd) : (fds l).length = l.length := by simp [fds]
@[simp] theorem fds_get (l : List Fd) (i : Nat) : (fds l)[i]? = l[i]?.map fdA := by simp [fds]
def kB (d : Bool) (l : List Fd) (s : AV) : Blk := .cells false [.bool d, .sl .clip (fds l), s]
def BI (f l : Nat) (fs : List Fd) (m : Ms) (st : St) (j : Nat) (env : Env) (s : St) : Prop :=
  ∃ i g, j + i = fs.length ∧ env 1 = .ptr l 0 ∧ env 5 = .ptr st.heap.length 0 ∧ env 11 = .sl .clip (fds fs) ∧ env 12 = .int .i64 fs.length ∧ env 13 = .int .i64 i ∧
    (i = 0 ∧ s = ⟨st.heap ++ (nilW :: g), st.toks⟩ ∨ 0 < i ∧ s = ⟨st.heap ++ (wB st.toks.length (catF (fs.take i) m) :: g), st.toks ++ [((catF (fs.take i) m).length, 1)]⟩)
theorem body_spec {fs : List Fd} {m : Ms} {d : Bool} {sv : AV} (hfl : fs.length ≤ 10) (hfs : fs = [] ∨ ∃ r, fs = .name :: r ∧ .name ∉ r) (ho : ∀ f ∈ fs, okF f m) (hb : ∀ i, (catF (fs.take i) m).length ≤ 500) {f l : Nat} {st : St} (hf : st.heap[f]? = some (kB d fs sv)) (hl : st.heap[l]? = some (mB m)) :
    ASpec Try.prog 122 [.ptr f 0, .ptr l 0] st fun v st' => v = .sl .any (ofBytes (catF fs m)) ∧ st' = st := by
  refine pure_of (R := fun v => v = _) C3s F122 rfl ?_
  obtain ⟨f1, f2, f3, f4, f5⟩ := at_facts hf
  obtain ⟨l1, l2, l3, l4, l5⟩ := at_facts hl
  have hK : kB d fs sv = .cells false [.bool d, .sl .clip (fds fs), sv] := rfl
  have hll := (List.getElem?_eq_some_iff.1 hl).1
  rw [hK] at f1
  simp (disch := first | omega | (simp only [LL]; omega)) [WW, c122, f1]
  refine awC_loopW (BI f l fs m st) fs.length ?_ ?_
  · exact ⟨0, [], by simp [nilW]⟩
  rintro j env s ⟨i, g, hj, e1, e5, e11, e12, e13, hs⟩
  by_cases hi : i < fs.length
  · have hi' : (i : Int) < fs.length := by omega
    rcases hs with ⟨rfl, rfl⟩ | ⟨h0, rfl⟩
    · rcases hfs with rfl | ⟨r, rfl, hr⟩
      · simp at hi
      · have e13 : env 13 = .int .i64 0 := e13
        have hi' : (0 : Int) < (Fd.name :: r).length := hi'
        clear hf hl
        simp (disch := first | omega | (simp only [LL]; omega)) [WW, e1, e5, e11, e12, e13, hi', fds, fdA]
        refine (put_name (m := m) (ho .name (by simp)) (by omega) (by simp) (by simpa using l1 _)).mono ?_
        rintro _ _ ⟨rfl, rfl⟩
        have hcat : catF ([Fd.name]) m = putF .name m := by simp [catF]
        simp (disch := first | omega | (simp only [LL]; omega)) [WW, e1, e5, e11, e12, e13]
        refine ⟨j - 1, by simp at hj; omega, 1, g ++ [.cells false [.fn (.func 192) [] [], .fn (.func 193) [] []]], by simp at hj ⊢; omega, by simp [e1], by simp [e5], by simp [e11, fds, fdA], by simp [e12], by simp, .inr ⟨by omega, ?_⟩⟩
        simp [hcat]
        rfl
    · clear hf hl
      simp (disch := first | omega | (simp only [LL]; omega)) [WW, e1, e5, e11, e12, e13, hi', hi, fdA, -putV, -getV]
      have hne : fs[i] ≠ .name := by
        rcases hfs with rfl | ⟨r, rfl, hr⟩
        · simp at hi
        · intro he
          obtain ⟨i', rfl⟩ : ∃ i', i = i' + 1 := ⟨i - 1, by omega⟩
          rw [List.getElem_cons_succ] at he
          exact hr (he ▸ List.getElem_mem _)
      refine put_call (f := fs[i]) (m := m) (k := st.toks.length) (bs := catF (fs.take i) m) hne (ho _ (List.getElem_mem hi)) (by omega) (by simp) (by simpa using l1 _) (by simp) (hb i) ?_
      have hcat := catF_succ fs m hi
      simp (disch := first | omega | (simp only [LL]; omega)) [WW, e1, e5, e11, e12, e13, -putV, -getV]
      refine ⟨j - 1, by omega, i + 1, g ++ [.cells false [putV fs[i], getV fs[i]]], by omega, by simp [e1], by simp [e5], by simp [e11], by simp [e12], by simp, .inr ⟨by omega, ?_⟩⟩
      rw [hcat]
      simp [-putV, -getV]
  · have hi' : ¬ (i : Int) < fs.length := by omega
    rcases hs with ⟨rfl, rfl⟩ | ⟨h0, rfl⟩
    · have hi' : ¬ (0 : Int) < fs.length := by omega
      have hfn : fs = [] := by
        have : fs.length = 0 := by omega
        exact List.length_eq_zero_iff.1 this
      subst hfn
      have e12 : env 12 = .int .i64 0 := e12
      have e13 : env 13 = .int .i64 0 := e13
      simp (disch := first | omega | (simp only [LL]; omega)) [WW, e1, e5, e11, e12, e13, nilW]
      rfl
    · have hW : ∀ k bs, wB k bs = .cells false [.sl (.own k) (ofBytes bs)] := fun _ _ => rfl
      rw [List.take_of_length_le (by omega)]
      simp (disch := first | omega | (simp only [LL]; omega)) [WW, e1, e5, e11, e12, e13, hi', hW]
end Go.Proofs.Ytjceilhmgbdgiaa

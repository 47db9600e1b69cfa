/- Messages: which may be, the program's: its calls by value. -/
import Derived.Test.YtjceilhmgbdgiaaZI
set_option linter.all false
namespace Go.Proofs.Ytjceilhmgbdgiaa
open Go.Am

def suchM (m : Ms) : Bool :=
  if m.kind = 2 then decide ((1 ≤ m.n ∧ m.n ≤ 1048576) ∧ 0 ≤ m.op ∧ m.op ≤ 2 ∧ (0 ≤ m.block ∧ m.block ≤ 31) ∧ (m.op = 1 ∨ m.val = zV))
  else if m.kind = 3 then decide ((1 ≤ m.n ∧ m.n ≤ 1048576) ∧ (m.e = 0 ∨ m.e = 120 ∨ m.e = 112 ∨ m.e = 121 ∨ m.e = 50) ∧ (m.e = 0 ∨ m.val = zV))
  else if m.kind = 4 then given m.give m.take && written m.ws
  else if m.kind = 10 then decide (m.e = 0 ∨ m.e = 50 ∨ m.e = 121) else true
theorem such_call {m : Ms} {l L : Nat} {st : St} {K : AV → St → Prop} (hw : m.ws.length ≤ 1048576) (hl : st.heap[l]? = some (mB m)) (hL : st.heap[L]? = some (.cells false [fnA 172])) (h : K (.bool (suchM m)) st) : callvK (orc Try.prog C3) [suchV m.kind L, .ptr l 0] st K := by
  unfold suchM at h
  unfold suchV
  by_cases h2 : m.kind = 2
  · rw [if_pos h2] at h ⊢
    simp
    exact (such55 hl).mono (by rintro _ _ ⟨rfl, rfl⟩; exact h)
  rw [if_neg h2] at h ⊢
  by_cases h3 : m.kind = 3
  · rw [if_pos h3] at h ⊢
    simp
    exact (such56 hl hL).mono (by rintro _ _ ⟨rfl, rfl⟩; exact h)
  rw [if_neg h3] at h ⊢
  by_cases h4 : m.kind = 4
  · rw [if_pos h4] at h ⊢
    simp
    exact (such57 hw hl).mono (by rintro _ _ ⟨rfl, rfl⟩; exact h)
  rw [if_neg h4] at h ⊢
  by_cases h10 : m.kind = 10
  · rw [if_pos h10] at h ⊢
    simp
    exact (one3 hl).mono (by rintro _ _ ⟨rfl, rfl⟩; exact h)
  rw [if_neg h10] at h ⊢
  simp
  exact such51.mono (by rintro _ _ ⟨rfl, rfl⟩; exact h)
/-- What writing and reading back asks of a field. -/
def okG (f : Fd) (m : Ms) : Prop :=
  match f with
  | .name => (0 ≤ m.nm.stamp ∧ m.nm.stamp < 16777216) ∧ (0 ≤ m.nm.inc ∧ m.nm.inc < 16777216) ∧ (0 ≤ m.nm.tr ∧ m.nm.tr < 16777216)
  | .n => 0 ≤ m.n ∧ m.n < 16777216
  | .block => 0 ≤ m.block ∧ m.block < 256
  | .op => 0 ≤ m.op ∧ m.op ≤ 100
  | .value => True
  | .e => 0 ≤ m.e ∧ m.e < 65536
  | .yes => True
  | .give => 0 ≤ m.give ∧ m.give < 256
  | .take => 0 ≤ m.take ∧ m.take < 256
  | .writes => m.ws.length ≤ 8 ∧ ∀ x ∈ m.ws, 0 ≤ x.block ∧ x.block ≤ 255
theorem okF_of {f : Fd} {m : Ms} (h : okG f m) : okF f m := by
  cases f
  case name => exact ⟨h.1.1, h.2.1.1, h.2.2.1⟩
  case n => exact h.1
  case block => exact h.1
  case op => exact h
  case value => trivial
  case e => exact h.1
  case yes => trivial
  case give => exact h.1
  case take => exact h.1
  case writes => exact ⟨h.1, fun x hx => (h.2 x hx).1⟩
theorem putF_len {f : Fd} {m : Ms} (h : okG f m) : (putF f m).length ≤ 73 := by
  cases f
  case writes =>
    have := h.1
    simp only [putF, wsB, List.length_cons, wb_len]
    omega
  all_goals simp [putF, numB, vlB]
theorem get_call {f : Fd} {m x : Ms} (ho : okG f m) (hx : x.ws = []) {r l : Nat} {t : List UInt8} {st : St} {K : AV → St → Prop} (hne : r ≠ l) (hs : t.length ≤ 900000) (hr : st.heap[r]? = some (gB (putF f m ++ t, false))) (hl : st.heap[l]? = some (mBt .clip x))
    (h : ∀ tk g gt, (f ≠ .writes → tk = .clip) → K (.tup []) ⟨(st.heap.set r (gB (t, false))).set l (mBt tk (setF f m x)) ++ g, st.toks ++ gt⟩) : callvK (orc Try.prog C3) [getV f, .ptr r 0, .ptr l 0] st K := by
  have hlen := putF_len ho
  have go : ∀ {g : Nat} {caps : List AV}, GetO g caps (putF f m) x (setF f m x) → ASpec Try.prog g ([.ptr r 0, .ptr l 0] ++ caps) st K := fun hp => (hp hne (by simp; omega) hr hl).mono (by
    rintro _ _ ⟨rfl, rfl⟩
    have := h .clip [] [] (fun _ => rfl)
    simpa using this)
  cases f
  case name => simp; exact go (get_name ho)
  case n => simp; exact go (get_num (many := 3) (.inl ⟨rfl, rfl, rfl⟩) (by funext a; simp) (by simp) (leV_3 ho))
  case block => simp; exact go (get_num (many := 1) (.inr (.inl ⟨rfl, rfl, rfl⟩)) (by funext a; simp) (by simp) (leV_1 ho))
  case op => simp; exact go (get_op ho)
  case value => simp; exact go get_value
  case e => simp; exact go (get_e ho)
  case yes => simp; exact go get_yes
  case give => simp; exact go (get_num (many := 1) (.inr (.inr (.inl ⟨rfl, rfl, rfl⟩))) (by funext a; simp) (by simp) (leV_1 ho))
  case take => simp; exact go (get_num (many := 1) (.inr (.inr (.inr ⟨rfl, rfl, rfl⟩))) (by funext a; simp) (by simp) (leV_1 ho))
  case writes =>
    simp
    refine (get_writes hx ho.1 ho.2 hne hs hr hl).mono ?_
    rintro _ _ ⟨rfl, g, rfl⟩
    by_cases h0 : m.ws.length = 0
    · have := h .clip g [] (fun _ => rfl)
      simpa [tkW, tksW, h0] using this
    · have := h (.own st.toks.length) g [(m.ws.length, 9)] (fun hh => absurd rfl hh)
      simpa [tkW, tksW, h0] using this
end Go.Proofs.Ytjceilhmgbdgiaa

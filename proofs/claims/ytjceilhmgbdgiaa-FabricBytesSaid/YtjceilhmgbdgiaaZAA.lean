/- Messages: what the program's fields read, all. -/
import Derived.Test.YtjceilhmgbdgiaaZZ
set_option linter.all false
namespace Go.Proofs.Ytjceilhmgbdgiaa
open Go.Am

def getP (f : Fd) (x : Ms) (s : RS) : Ms × RS :=
  match f with
  | .name => ({ x with nm := (nameP s).1 }, (nameP s).2)
  | .n => ({ x with n := (numP 3 s).1 }, (numP 3 s).2)
  | .block => ({ x with block := (numP 1 s).1 }, (numP 1 s).2)
  | .op => ({ x with op := (opP s).1 }, (opP s).2)
  | .value => ({ x with val := (tkV s).1 }, (tkV s).2)
  | .e => ({ x with e := (numP 2 s).1 }, (numP 2 s).2)
  | .yes => ({ x with yes := (yesP s).1 }, (yesP s).2)
  | .give => ({ x with give := (numP 1 s).1 }, (numP 1 s).2)
  | .take => ({ x with take := (numP 1 s).1 }, (numP 1 s).2)
  | .writes => ({ x with ws := (wrsP s).1 }, (wrsP s).2)
theorem getp_call {f : Fd} {x : Ms} {s : RS} (hb : s.2 = false) (hx : x.ws = []) (hs : s.1.length ≤ 1000000) {r l : Nat} {f0 : Bool} {st : St} {K : AV → St → Prop} (hne : r ≠ l) (hfl : fOk f0 s) (hr : st.heap[r]? = some (gF f0 s)) (hl : st.heap[l]? = some (mBt .clip x))
    (h : ∀ tk fl g gt, fOk fl (getP f x s).2 → (f ≠ .writes → tk = .clip) → K (.tup []) ⟨(st.heap.set r (gF fl (getP f x s).2)).set l (mBt tk (getP f x s).1) ++ g, st.toks ++ gt⟩) : callvK (orc Try.prog T12) [getV f, .ptr r 0, .ptr l 0] st K := by
  have go : ∀ {g : Nat} {caps : List AV}, GetP g caps x s (getP f x s) → ASpec Try.prog g ([.ptr r 0, .ptr l 0] ++ caps) st K := fun hp => (hp hne hfl hr hl).mono (by
    rintro _ _ ⟨rfl, ⟨fl, hf, rfl⟩⟩
    have := h .clip fl [] [] hf (fun _ => rfl)
    simpa using this)
  cases f
  case name => simp; exact go (getp_name hs)
  case n => simp; exact go (getp_num (many := 3) hs (.inl ⟨rfl, rfl, rfl⟩) (by funext a; simp) (by simp))
  case block => simp; exact go (getp_num (many := 1) hs (.inr (.inl ⟨rfl, rfl, rfl⟩)) (by funext a; simp) (by simp))
  case op => simp; exact go (getp_op hs)
  case value => simp; exact go (getp_value hb hs)
  case e => simp; exact go (getp_e hs)
  case yes => simp; exact go (getp_yes hs)
  case give => simp; exact go (getp_num (many := 1) hs (.inr (.inr (.inl ⟨rfl, rfl, rfl⟩))) (by funext a; simp) (by simp))
  case take => simp; exact go (getp_num (many := 1) hs (.inr (.inr (.inr ⟨rfl, rfl, rfl⟩))) (by funext a; simp) (by simp))
  case writes =>
    simp
    refine (getp_writes hx hs hne hfl hr hl).mono ?_
    rintro _ _ ⟨rfl, ⟨fl, hf, g, rfl⟩⟩
    by_cases h0 : (wrsP s).1.length = 0
    · have := h .clip fl g [] hf (fun _ => rfl)
      simpa [tkW, tksW, h0, getP] using this
    · have := h (.own st.toks.length) fl g [((wrsP s).1.length, 9)] hf (fun hh => absurd rfl hh)
      simpa [tkW, tksW, h0, getP] using this
def getsP : List Fd → Ms → RS → Ms × RS
  | [], x, s => (x, s)
  | f :: fs, x, s => if s.2 = true then (x, s) else getsP fs (getP f x s).1 (getP f x s).2
theorem getsP_bad (fs : List Fd) (x : Ms) {s : RS} (h : s.2 = true) : getsP fs x s = (x, s) := by
  cases fs with
  | nil => rfl
  | cons f fs => rw [getsP, if_pos h]
theorem getsP_drop {fs : List Fd} {i : Nat} (hi : i < fs.length) (x : Ms) {s : RS} (h : s.2 = false) : getsP (fs.drop i) x s = getsP (fs.drop (i + 1)) (getP fs[i] x s).1 (getP fs[i] x s).2 := by
  rw [List.drop_eq_getElem_cons hi, getsP, if_neg (by simp [h])]
theorem getP_ws {f : Fd} {x : Ms} {s : RS} (h : f ≠ .writes) : (getP f x s).1.ws = x.ws := by
  cases f <;> first | rfl | exact absurd rfl h
theorem wsP_len (n : Nat) (s : RS) : (wsP n s).1.length ≤ n := by
  induction n generalizing s with
  | zero => simp [wsP]
  | succ n ih =>
    rw [wsP]
    split
    · simp
    · have := ih (tkV (numP 1 s).2).2
      simp only [List.length_cons]
      omega
theorem getP_wsl {f : Fd} {x : Ms} {s : RS} (hx : x.ws = []) : (getP f x s).1.ws.length ≤ 255 := by
  by_cases h : f = .writes
  · subst h
    have h1 := numP_bound 1 (by simp) s
    have h2 := wsP_len (numP 1 s).1.toNat (numP 1 s).2
    show (wsP _ _).1.length ≤ 255
    omega
  · rw [getP_ws h, hx]
    simp
theorem wsP_rlen (n : Nat) (s : RS) : (wsP n s).2.1.length ≤ s.1.length := by
  induction n generalizing s with
  | zero => simp [wsP]
  | succ n ih =>
    rw [wsP]
    split
    · simp
    · have := ih (tkV (numP 1 s).2).2
      have := tkV_len (numP 1 s).2
      have := numP_len 1 s
      simp only
      omega
theorem getP_len (f : Fd) (x : Ms) (s : RS) : (getP f x s).2.1.length ≤ s.1.length := by
  have n1 := numP_len 1 s
  have n2 := numP_len 2 s
  have n3 := numP_len 3 s
  cases f
  case name =>
    have := numP_len 3 (numP 3 s).2
    have := numP_len 3 (numP 3 (numP 3 s).2).2
    show (numP 3 _).2.1.length ≤ _
    omega
  case value => exact tkV_len s
  case writes =>
    have := wsP_rlen (numP 1 s).1.toNat (numP 1 s).2
    show (wsP _ _).2.1.length ≤ _
    omega
  all_goals assumption
end Go.Proofs.Ytjceilhmgbdgiaa

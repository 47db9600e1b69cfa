/- Messages: what the program reads is what the reference reads. -/
import Derived.Test.YtjceilhmgbdgiaaZAA
set_option linter.all false
namespace Go.Proofs.Ytjceilhmgbdgiaa
open Go.Am

def endP (q : Ms × RS) : Ms × Int := if q.2.2 = false ∧ q.2.1 = [] ∧ mayM q.1 = true then (q.1, 0) else (zM, 40)
def headS0 (s : RS) : RS := (numP 1 (numP 1 s).2).2
def headS (s : RS) : RS := (numP 3 (numP 3 (headS0 s)).2).2
def headP (k : Int) (s : RS) : Ms :=
  ⟨k, (numP 1 s).1, (numP 1 (numP 1 s).2).1, (numP 3 (headS0 s)).1, (numP 3 (numP 3 (headS0 s)).2).1, ⟨0, 0, 0⟩, 0, 0, 0, zV, 0, false, 0, 0, []⟩
def readQ : List UInt8 → Ms × Int
  | [] => (zM, 40)
  | x :: t => if 127 < x.toNat then (zM, 40) else endP (getsP (fieldsOf x.toNat) (headP x.toNat (t, false)) (headS (t, false)))
/-- Two readings: the states are the same, and the values too if it is good. -/
def Agr {α : Type} (p q : α × RS) : Prop := p.2 = q.2 ∧ (p.2.2 = false → p = q)
theorem Agr.refl {α : Type} (p : α × RS) : Agr p p := ⟨rfl, fun _ => rfl⟩
theorem agr_short {α : Type} {p q : α × RS} (hp : p.2 = ([], true)) (hq : q.2 = ([], true)) : Agr p q := ⟨hp.trans hq.symm, fun h => by rw [hp] at h; cases h⟩
theorem agr_eq {α : Type} {p q : α × RS} (h : p = q) : Agr p q := h ▸ Agr.refl _
theorem num1 (s : RS) : numP 1 s = rd1 s := by
  obtain ⟨l, b⟩ := s
  cases l with
  | nil => rfl
  | cons x t => simp [numP, rd1, leV]
theorem num2 (s : RS) : Agr (numP 2 s) (rdE s) := by
  obtain ⟨l, b⟩ := s
  match l with
  | [] => exact agr_short rfl rfl
  | [x] => exact agr_short rfl rfl
  | x :: y :: t => exact agr_eq (by rw [numP, if_neg (by simp)]; simp [rdE, rd1, leV])
theorem num3 (s : RS) : Agr (numP 3 s) (rd3 s) := by
  obtain ⟨l, b⟩ := s
  match l with
  | [] => exact agr_short rfl rfl
  | [x] => exact agr_short rfl rfl
  | [x, y] => exact agr_short rfl rfl
  | x :: y :: z :: t => exact agr_eq (by rw [numP, if_neg (by simp)]; simp [rd3, rd1, leV]; omega)
/-! a bad state stays bad -/
theorem rd1_mono {s : RS} (h : s.2 = true) : (rd1 s).2.2 = true := by
  obtain ⟨l, b⟩ := s
  cases l with
  | nil => rfl
  | cons x t => exact h
theorem rd3_mono {s : RS} (h : s.2 = true) : (rd3 s).2.2 = true := rd1_mono (rd1_mono (rd1_mono h))
theorem rdn_mono {s : RS} (h : s.2 = true) : ∀ n, (rdn n s).2 = true
  | 0 => h
  | n + 1 => rd1_mono (rdn_mono h n)
theorem rdW1_mono {s : RS} (h : s.2 = true) : (rdW1 s).2.2 = true := rdn_mono (rd1_mono h) 8
theorem rdWs_mono (n : Nat) {s : RS} (h : s.2 = true) : (rdWs n s).2.2 = true := by
  rw [rdWs_bad n h]
  exact h
theorem nm3 (s : RS) : Agr (nameP s) (rdNm s) := by
  have a1 := num3 s
  have a2 := num3 (numP 3 s).2
  have a3 := num3 (numP 3 (numP 3 s).2).2
  have e1 : (numP 3 s).2 = (rd3 s).2 := a1.1
  have e2 : (numP 3 (numP 3 s).2).2 = (rd3 (rd3 s).2).2 := by rw [a2.1, e1]
  have e3 : (numP 3 (numP 3 (numP 3 s).2).2).2 = (rd3 (rd3 (rd3 s).2).2).2 := by rw [a3.1, e2]
  refine ⟨e3, fun h => ?_⟩
  have h3 : (numP 3 (numP 3 (numP 3 s).2).2).2.2 = false := h
  have h2 : (numP 3 (numP 3 s).2).2.2 = false := by
    cases hb : (numP 3 (numP 3 s).2).2.2 with
    | false => rfl
    | true =>
      have := rd3_mono hb
      rw [← a3.1, h3] at this
      cases this
  have h1 : (numP 3 s).2.2 = false := by
    cases hb : (numP 3 s).2.2 with
    | false => rfl
    | true =>
      have := rd3_mono hb
      rw [← a2.1, h2] at this
      cases this
  have v1 := congrArg Prod.fst (a1.2 h1)
  have v2 := congrArg Prod.fst (a2.2 h2)
  have v3 := congrArg Prod.fst (a3.2 h3)
  rw [e1] at v2
  rw [e2] at v3
  refine Prod.ext ?_ e3
  simp only [nameP, rdNm, Nm.mk.injEq]
  exact ⟨v1, by rw [e1]; exact v2, by rw [e2]; exact v3⟩
theorem ofInt_toNat (a : UInt8) : UInt8.ofInt a.toNat = a := by
  have h := ofInt_nat a.toNat (by have := a.toNat_lt; omega)
  exact UInt8.toNat_inj.1 (by omega)
theorem val8 (s : RS) : Agr (tkV s) (rdV s) := by
  obtain ⟨l, b⟩ := s
  match l with
  | [] => exact agr_short rfl rfl
  | [_] => exact agr_short rfl rfl
  | [_, _] => exact agr_short rfl rfl
  | [_, _, _] => exact agr_short rfl rfl
  | [_, _, _, _] => exact agr_short rfl rfl
  | [_, _, _, _, _] => exact agr_short rfl rfl
  | [_, _, _, _, _, _] => exact agr_short rfl rfl
  | [_, _, _, _, _, _, _] => exact agr_short rfl rfl
  | a0 :: a1 :: a2 :: a3 :: a4 :: a5 :: a6 :: a7 :: t => exact agr_eq (by rw [tkV, if_neg (by simp)]; simp [rdV, vlOf, rdB, rdn, rd1, ofInt_toNat])
theorem ws_agr (n : Nat) (s : RS) : Agr (wsP n s) (rdWs n s) := by
  induction n generalizing s with
  | zero => exact Agr.refl _
  | succ n ih =>
    rw [wsP, rdWs]
    split
    · exact Agr.refl _
    · rw [num1]
      obtain ⟨v1, v2⟩ := val8 (rd1 s).2
      have e2 : (tkV (rd1 s).2).2 = (rdW1 s).2 := v1
      obtain ⟨i1, i2⟩ := ih (tkV (rd1 s).2).2
      refine ⟨by rw [← e2]; exact i1, fun h => ?_⟩
      have hb : (tkV (rd1 s).2).2.2 = false := by
        cases hb : (tkV (rd1 s).2).2.2 with
        | false => rfl
        | true =>
          have := rdWs_mono n hb
          rw [← i1] at this
          rw [this] at h
          cases h
      have hv := congrArg Prod.fst (v2 hb)
      have hw := i2 h
      rw [e2] at hw
      have hv0 : tkV (rd1 s).2 = (⟨rdB 0 (rd1 s).2, rdB 1 (rd1 s).2, rdB 2 (rd1 s).2, rdB 3 (rd1 s).2, rdB 4 (rd1 s).2, rdB 5 (rd1 s).2, rdB 6 (rd1 s).2, rdB 7 (rd1 s).2⟩, (rdW1 s).2) := v2 hb
      rw [hv0]
      simp only [hw]
      rfl
theorem wr_agr (s : RS) : Agr (wrsP s) (rdWr s) := by
  rw [wrsP, rdWr, num1]
  exact ws_agr _ _
theorem rdWr_mono {s : RS} (h : s.2 = true) : (rdWr s).2.2 = true := rdWs_mono _ (rd1_mono h)
/-- A field, the reference's. -/
def rdFd (f : Fd) (x : Ms) (s : RS) : Ms × RS :=
  match f with
  | .name => ({ x with nm := (rdNm s).1 }, (rdNm s).2)
  | .n => ({ x with n := (rd3 s).1 }, (rd3 s).2)
  | .block => ({ x with block := (rd1 s).1 }, (rd1 s).2)
  | .op => ({ x with op := (rdO s).1 }, (rdO s).2)
  | .value => ({ x with val := (rdV s).1 }, (rdV s).2)
  | .e => ({ x with e := (rdE s).1 }, (rdE s).2)
  | .yes => ({ x with yes := (rdF s).1 }, (rdF s).2)
  | .give => ({ x with give := (rd1 s).1 }, (rd1 s).2)
  | .take => ({ x with take := (rd1 s).1 }, (rd1 s).2)
  | .writes => ({ x with ws := (rdWr s).1 }, (rdWr s).2)
theorem agr_map {α : Type} {p q : α × RS} (g : α → Ms) (h : Agr p q) : Agr (g p.1, p.2) (g q.1, q.2) := ⟨h.1, fun hb => by rw [h.2 hb]⟩
theorem fd_agr (f : Fd) (x : Ms) (s : RS) : Agr (getP f x s) (rdFd f x s) := by
  cases f
  case name => exact agr_map (fun v => { x with nm := v }) (nm3 s)
  case n => exact agr_map (fun v => { x with n := v }) (num3 s)
  case block => exact agr_map (fun v => { x with block := v }) (agr_eq (num1 s))
  case op => exact agr_map (fun v => { x with op := v }) (agr_eq (by rw [opP, rdO, num1]))
  case value => exact agr_map (fun v => { x with val := v }) (val8 s)
  case e => exact agr_map (fun v => { x with e := v }) (num2 s)
  case yes => exact agr_map (fun v => { x with yes := v }) (agr_eq (by rw [yesP, rdF, num1]))
  case give => exact agr_map (fun v => { x with give := v }) (agr_eq (num1 s))
  case take => exact agr_map (fun v => { x with take := v }) (agr_eq (num1 s))
  case writes => exact agr_map (fun v => { x with ws := v }) (wr_agr s)
theorem fd_mono {f : Fd} {x : Ms} {s : RS} (h : s.2 = true) : (rdFd f x s).2.2 = true := by
  cases f
  case name => exact rd3_mono (rd3_mono (rd3_mono h))
  case n => exact rd3_mono h
  case block => exact rd1_mono h
  case op => show ((rd1 s).2.2 || _) = true; rw [rd1_mono h]; rfl
  case value => exact rdn_mono h 8
  case e => exact rd1_mono (rd1_mono h)
  case yes => show ((rd1 s).2.2 || _) = true; rw [rd1_mono h]; rfl
  case give => exact rd1_mono h
  case take => exact rd1_mono h
  case writes => exact rdWr_mono h
def rds : List Fd → Ms × RS → Ms × RS
  | [], q => q
  | f :: fs, q => rds fs (rdFd f q.1 q.2)
theorem rds_mono (fs : List Fd) {q : Ms × RS} (h : q.2.2 = true) : (rds fs q).2.2 = true := by
  induction fs generalizing q with
  | nil => exact h
  | cons f fs ih => exact ih (fd_mono h)
theorem gets_rds (fs : List Fd) (x : Ms) (s : RS) : ((getsP fs x s).2.2 = true ∧ (rds fs (x, s)).2.2 = true) ∨ getsP fs x s = rds fs (x, s) := by
  induction fs generalizing x s with
  | nil => exact .inr rfl
  | cons f fs ih =>
    rw [getsP]
    split
    · rename_i h
      exact .inl ⟨h, rds_mono (f :: fs) (q := (x, s)) h⟩
    · obtain ⟨h1, h2⟩ := fd_agr f x s
      cases hb : (getP f x s).2.2 with
      | true =>
        refine .inl ⟨by rw [getsP_bad _ _ hb]; exact hb, ?_⟩
        refine rds_mono fs (q := rdFd f x s) ?_
        rw [← h1]; exact hb
      | false =>
        have e := h2 hb
        have := ih (getP f x s).1 (getP f x s).2
        rw [show ((getP f x s).1, (getP f x s).2) = getP f x s from rfl, e] at this
        rw [e]
        exact this
theorem endP_bad {q : Ms × RS} (h : q.2.2 = true) : endP q = (zM, 40) := by
  rw [endP, if_neg]
  rw [h]
  simp
theorem mayM_kind {m : Ms} (h : ¬ (1 ≤ m.kind ∧ m.kind ≤ 11)) : mayM m = false := by
  cases hm : mayM m with
  | false => rfl
  | true => exact absurd (mayM_facts hm).1 h
theorem endP_kind {q : Ms × RS} (h : ¬ (1 ≤ q.1.kind ∧ q.1.kind ≤ 11)) : endP q = (zM, 40) := by
  rw [endP, if_neg]
  rw [mayM_kind h]
  simp
theorem rdM_rds {q : Ms × RS} {k : Int} (hk : q.1.kind = k) (hr : 1 ≤ k ∧ k ≤ 11) : rdT (rdN q).1 (rdN q).2 = rds (fieldsOf k) q := by
  obtain ⟨x, s⟩ := q
  simp only at hk
  obtain rfl | rfl | rfl | rfl | rfl | rfl | rfl | rfl | rfl | rfl | rfl : k = 1 ∨ k = 2 ∨ k = 3 ∨ k = 4 ∨ k = 5 ∨ k = 6 ∨ k = 7 ∨ k = 8 ∨ k = 9 ∨ k = 10 ∨ k = 11 := by omega
  all_goals simp [rdT, rdN, hk, fieldsOf, rds, rdFd]
theorem head_agr (x : UInt8) (t : List UInt8) : Agr (headP x.toNat (t, false), headS (t, false)) (rdH (x :: t, false)) := by
  have a1 := num3 (rd1 (rd1 (t, false)).2).2
  have a2 := num3 (numP 3 (rd1 (rd1 (t, false)).2).2).2
  have e0 : headS0 (t, false) = (rd1 (rd1 (t, false)).2).2 := by rw [headS0, num1, num1]
  have e1 : (numP 3 (rd1 (rd1 (t, false)).2).2).2 = (rd3 (rd1 (rd1 (t, false)).2).2).2 := a1.1
  have e2 : headS (t, false) = (rd3 (rd3 (rd1 (rd1 (t, false)).2).2).2).2 := by rw [headS, e0, a2.1, e1]
  refine ⟨e2, fun h => ?_⟩
  have h2 : (numP 3 (numP 3 (rd1 (rd1 (t, false)).2).2).2).2.2 = false := by
    have : (headS (t, false)).2 = false := h
    rw [headS, e0] at this
    exact this
  have h1 : (numP 3 (rd1 (rd1 (t, false)).2).2).2.2 = false := by
    cases hb : (numP 3 (rd1 (rd1 (t, false)).2).2).2.2 with
    | false => rfl
    | true =>
      have := rd3_mono hb
      rw [← a2.1, h2] at this
      cases this
  have v1 := congrArg Prod.fst (a1.2 h1)
  have v2 := congrArg Prod.fst (a2.2 h2)
  rw [e1] at v2
  refine Prod.ext ?_ e2
  simp only [headP, num1, e0, e1, v1, v2]
  rfl
theorem readQ_eq (l : List UInt8) : readQ l = readL l := by
  cases l with
  | nil => rfl
  | cons x t =>
    rw [readQ, readL]
    split
    · rfl
    · show _ = endP (rdM (x :: t, false))
      have hk2 : (rdH (x :: t, false)).1.kind = x.toNat := rfl
      obtain ⟨h1, h2⟩ := head_agr x t
      by_cases hr : 1 ≤ (x.toNat : Int) ∧ (x.toNat : Int) ≤ 11
      · have hM : rdM (x :: t, false) = rds (fieldsOf x.toNat) (rdH (x :: t, false)) := rdM_rds hk2 hr
        rw [hM]
        simp only at h1 h2
        cases hb : (headS (t, false)).2 with
        | true =>
          rw [getsP_bad _ _ hb, endP_bad (q := (_, headS (t, false))) hb, endP_bad]
          exact rds_mono _ (by rw [← h1]; exact hb)
        | false =>
          rw [← h2 hb]
          rcases gets_rds (fieldsOf x.toNat) (headP x.toNat (t, false)) (headS (t, false)) with ⟨g1, g2⟩ | g
          · rw [endP_bad g1, endP_bad g2]
          · rw [g]
      · have hf : fieldsOf x.toNat = [] := by
          unfold fieldsOf
          repeat' split
          all_goals first | omega | rfl
        rw [hf]
        rw [endP_kind (q := getsP [] (headP x.toNat (t, false)) (headS (t, false))) hr, endP_kind]
        have hr' : ¬ (1 ≤ (rdM (x :: t, false)).1.kind ∧ (rdM (x :: t, false)).1.kind ≤ 11) := by
          have : (rdM (x :: t, false)).1.kind = x.toNat := by
            unfold rdM rdT rdN
            repeat' split
            all_goals rfl
          rw [this]
          exact hr
        exact hr'
end Go.Proofs.Ytjceilhmgbdgiaa

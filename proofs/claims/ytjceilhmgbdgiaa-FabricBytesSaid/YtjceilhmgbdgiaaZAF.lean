/- Messages: there and back, in plain words. -/
import Derived.Test.YtjceilhmgbdgiaaZAB
import Derived.Test.YtjceilhmgbdgiaaZAE
set_option linter.all false
namespace Go.Proofs.Ytjceilhmgbdgiaa
open Go.Am

theorem rd1_cons (x : UInt8) (t : List UInt8) (b : Bool) : rd1 (x :: t, b) = ((x.toNat : Int), (t, b)) := rfl
theorem rd1_put {n : Int} (h : 0 ≤ n ∧ n < 256) (t : List UInt8) (b : Bool) : rd1 (numB 1 n ++ t, b) = (n, (t, b)) := by
  show rd1 (UInt8.ofInt n :: t, b) = _
  rw [rd1_cons, ofInt_nat n (by omega)]
theorem rd3_put {n : Int} (h : 0 ≤ n ∧ n < 16777216) (t : List UInt8) (b : Bool) : rd3 (numB 3 n ++ t, b) = (n, (t, b)) := by
  show rd3 (UInt8.ofInt n :: UInt8.ofInt (n / 256) :: UInt8.ofInt (n / 256 / 256) :: t, b) = _
  simp only [rd3, rd1_cons]
  rw [ofInt_nat' n h.1, ofInt_nat' (n / 256) (by omega), ofInt_nat' (n / 256 / 256) (by omega)]
  congr 1
  omega
theorem rdE_put {n : Int} (h : 0 ≤ n ∧ n < 65536) (t : List UInt8) (b : Bool) : rdE (numB 2 n ++ t, b) = (n, (t, b)) := by
  show rdE (UInt8.ofInt n :: UInt8.ofInt (n / 256) :: t, b) = _
  simp only [rdE, rd1_cons]
  rw [ofInt_nat' n h.1, ofInt_nat' (n / 256) (by omega)]
  congr 1
  omega
theorem rdO_put {n : Int} (h : 0 ≤ n ∧ n ≤ 100) (t : List UInt8) (b : Bool) : rdO (numB 1 n ++ t, b) = (n, (t, b)) := by
  rw [rdO, rd1_put (by omega)]
  have h1 : n % 128 = n := by omega
  have h2 : ¬ 127 < n := by omega
  simp [h1, h2]
theorem rdF_put (y : Bool) (t : List UInt8) (b : Bool) : rdF ([if y then 1 else 0] ++ t, b) = (y, (t, b)) := by
  cases y <;> simp [rdF, rd1]
theorem rdNm_put {n : Nm} (h : (0 ≤ n.stamp ∧ n.stamp < 16777216) ∧ (0 ≤ n.inc ∧ n.inc < 16777216) ∧ (0 ≤ n.tr ∧ n.tr < 16777216)) (t : List UInt8) (b : Bool) : rdNm ((numB 3 n.stamp ++ numB 3 n.inc ++ numB 3 n.tr) ++ t, b) = (n, (t, b)) := by
  simp only [List.append_assoc, rdNm]
  rw [rd3_put h.1, rd3_put h.2.1, rd3_put h.2.2]
theorem rdV_put (v : Vl) (t : List UInt8) (b : Bool) : rdV (vlB v ++ t, b) = (v, (t, b)) := by
  simp only [vlB, List.cons_append, List.nil_append, rdV, rdB, rdn, rd1_cons, ofInt_toNat]
theorem rdW1_put {w : Wr} (h : 0 ≤ w.block ∧ w.block ≤ 255) (t : List UInt8) (b : Bool) : rdW1 (wb w ++ t, b) = (w, (t, b)) := by
  simp only [wb, List.cons_append, List.nil_append, rdW1, rd1_cons, rdB, rdn, ofInt_toNat, ofInt_nat w.block h]
theorem rdWs_put (ws : List Wr) (h : ∀ w ∈ ws, 0 ≤ w.block ∧ w.block ≤ 255) (t : List UInt8) : rdWs ws.length ((ws.map wb).flatten ++ t, false) = (ws, (t, false)) := by
  induction ws with
  | nil => rfl
  | cons w ws ih =>
    simp only [List.map_cons, List.flatten_cons, List.append_assoc, List.length_cons, rdWs]
    rw [if_neg (by simp), rdW1_put (h w List.mem_cons_self), ih fun x hx => h x (List.mem_cons_of_mem _ hx)]
theorem rdWr_put {ws : List Wr} (h : ∀ w ∈ ws, 0 ≤ w.block ∧ w.block ≤ 255) (hl : ws.length ≤ 255) (t : List UInt8) : rdWr (wsB ws ++ t, false) = (ws, (t, false)) := by
  rw [rdWr, wsB, List.cons_append, rd1_cons, ofInt_nat ws.length (by omega), Int.toNat_natCast, rdWs_put ws h]
theorem rdFd_put {f : Fd} {m x : Ms} (h : okG f m) (t : List UInt8) : rdFd f x (putF f m ++ t, false) = (setF f m x, (t, false)) := by
  cases f
  case name => show ({ x with nm := _ }, _) = _; rw [show putF .name m = numB 3 m.nm.stamp ++ numB 3 m.nm.inc ++ numB 3 m.nm.tr from rfl, rdNm_put h]; rfl
  case n => show ({ x with n := _ }, _) = _; rw [show putF .n m = numB 3 m.n from rfl, rd3_put h]; rfl
  case block => show ({ x with block := _ }, _) = _; rw [show putF .block m = numB 1 m.block from rfl, rd1_put h]; rfl
  case op => show ({ x with op := _ }, _) = _; rw [show putF .op m = numB 1 m.op from rfl, rdO_put h]; rfl
  case value => show ({ x with val := _ }, _) = _; rw [show putF .value m = vlB m.val from rfl, rdV_put]; rfl
  case e => show ({ x with e := _ }, _) = _; rw [show putF .e m = numB 2 m.e from rfl, rdE_put h]; rfl
  case yes => show ({ x with yes := _ }, _) = _; rw [show putF .yes m = [if m.yes then 1 else 0] from rfl, rdF_put]; rfl
  case give => show ({ x with give := _ }, _) = _; rw [show putF .give m = numB 1 m.give from rfl, rd1_put h]; rfl
  case take => show ({ x with take := _ }, _) = _; rw [show putF .take m = numB 1 m.take from rfl, rd1_put h]; rfl
  case writes => show ({ x with ws := _ }, _) = _; rw [show putF .writes m = wsB m.ws from rfl, rdWr_put h.2 (by have := h.1; omega)]; rfl
theorem rds_put (fs : List Fd) {m : Ms} (x : Ms) (h : ∀ f ∈ fs, okG f m) (t : List UInt8) : rds fs (x, (catF fs m ++ t, false)) = (getAll fs m x, (t, false)) := by
  induction fs generalizing x with
  | nil => rfl
  | cons f fs ih =>
    have e : catF (f :: fs) m ++ t = putF f m ++ (catF fs m ++ t) := by simp [catF]
    rw [e, rds, rdFd_put (h f (by simp)), ih _ fun g hg => h g (by simp [hg])]
    rfl
/-! and back -/
theorem rd1_inv {s : RS} {t : List UInt8} (h : (rd1 s).2 = (t, false)) : s = (numB 1 (rd1 s).1 ++ t, false) := by
  obtain ⟨l, b⟩ := s
  cases l with
  | nil => simp [rd1] at h
  | cons x l =>
    simp only [rd1_cons, Prod.mk.injEq] at h ⊢
    obtain ⟨rfl, rfl⟩ := h
    show _ = UInt8.ofInt x.toNat :: l ∧ _
    rw [ofInt_toNat]
    exact ⟨rfl, rfl⟩
theorem rd1_ex {s : RS} {t : List UInt8} (h : (rd1 s).2 = (t, false)) : ∃ x, s = (x :: t, false) := ⟨_, rd1_inv h⟩
theorem ofInt_mod {a : Int} {b : UInt8} (h0 : 0 ≤ a) (h : a % 256 = b.toNat) : UInt8.ofInt a = b := by
  apply UInt8.toNat_inj.1
  have := ofInt_nat' a h0
  omega
theorem numB3_inv (x y z : UInt8) : numB 3 ((x.toNat : Int) + 256 * y.toNat + 65536 * z.toNat) = [x, y, z] := by
  have hx := x.toNat_lt
  have hy := y.toNat_lt
  have hz := z.toNat_lt
  show [UInt8.ofInt _, UInt8.ofInt _, UInt8.ofInt _] = _
  rw [ofInt_mod (b := x) (by omega) (by omega), ofInt_mod (b := y) (by omega) (by omega), ofInt_mod (b := z) (by omega) (by omega)]
theorem rd3_inv {s : RS} {t : List UInt8} (h : (rd3 s).2 = (t, false)) : s = (numB 3 (rd3 s).1 ++ t, false) := by
  obtain ⟨z, h1⟩ := rd1_ex h
  obtain ⟨y, h2⟩ := rd1_ex h1
  obtain ⟨x, rfl⟩ := rd1_ex h2
  simp only [rd3, rd1_cons, numB3_inv, List.cons_append, List.nil_append]
theorem rdE_inv {s : RS} {t : List UInt8} (h : (rdE s).2 = (t, false)) : s = (numB 2 (rdE s).1 ++ t, false) := by
  obtain ⟨y, h2⟩ := rd1_ex h
  obtain ⟨x, rfl⟩ := rd1_ex h2
  have hx := x.toNat_lt
  have hy := y.toNat_lt
  simp only [rdE, rd1_cons]
  show _ = (UInt8.ofInt _ :: UInt8.ofInt _ :: t, false)
  rw [ofInt_mod (b := x) (by omega) (by omega), ofInt_mod (b := y) (by omega) (by omega)]
theorem rdO_inv {s : RS} {t : List UInt8} (h : (rdO s).2 = (t, false)) : s = (numB 1 (rdO s).1 ++ t, false) := by
  simp only [rdO, Prod.mk.injEq, Bool.or_eq_false_iff, decide_eq_false_iff_not] at h
  have h1 : (rd1 s).2 = (t, false) := Prod.ext h.1 h.2.1
  have h2 := rd1_bound s
  have h3 : (rdO s).1 = (rd1 s).1 := by
    show (rd1 s).1 % 128 = _
    omega
  rw [h3]
  exact rd1_inv h1
theorem rdF_inv {s : RS} {t : List UInt8} (h : (rdF s).2 = (t, false)) : s = ([if (rdF s).1 then 1 else 0] ++ t, false) := by
  simp only [rdF, Prod.mk.injEq, Bool.or_eq_false_iff, decide_eq_false_iff_not] at h
  have h1 : (rd1 s).2 = (t, false) := Prod.ext h.1 h.2.1
  have h2 := rd1_bound s
  have h4 := rd1_inv h1
  have h5 : (rdF s).1 = ((rd1 s).1 == 1) := rfl
  rw [h5]
  obtain h3 | h3 : (rd1 s).1 = 0 ∨ (rd1 s).1 = 1 := by omega
  · rw [h3] at h4 ⊢
    exact h4
  · rw [h3] at h4 ⊢
    exact h4
theorem rdNm_inv {s : RS} {t : List UInt8} (h : (rdNm s).2 = (t, false)) : s = ((numB 3 (rdNm s).1.stamp ++ numB 3 (rdNm s).1.inc ++ numB 3 (rdNm s).1.tr) ++ t, false) := by
  have h1 := rd3_inv h
  have h2 := rd3_inv h1
  have h3 := rd3_inv h2
  simp only [rdNm, List.append_assoc]
  exact h3
theorem rdn_inv {s : RS} {t : List UInt8} (h : rdn 8 s = (t, false)) : ∃ a b c d e f g h, s = (a :: b :: c :: d :: e :: f :: g :: h :: t, false) := by
  obtain ⟨x7, h⟩ := rd1_ex h
  obtain ⟨x6, h⟩ := rd1_ex h
  obtain ⟨x5, h⟩ := rd1_ex h
  obtain ⟨x4, h⟩ := rd1_ex h
  obtain ⟨x3, h⟩ := rd1_ex h
  obtain ⟨x2, h⟩ := rd1_ex h
  obtain ⟨x1, h⟩ := rd1_ex h
  obtain ⟨x0, h⟩ := rd1_ex h
  exact ⟨x0, x1, x2, x3, x4, x5, x6, x7, h⟩
theorem rdV_inv {s : RS} {t : List UInt8} (h : (rdV s).2 = (t, false)) : s = (vlB (rdV s).1 ++ t, false) := by
  obtain ⟨a, b, c, d, e, f, g, h, rfl⟩ := rdn_inv h
  simp [rdV, vlB, rd1_cons, rdB, rdn, ofInt_toNat]
theorem rdW1_inv {s : RS} {t : List UInt8} (h : (rdW1 s).2 = (t, false)) : s = (wb (rdW1 s).1 ++ t, false) := by
  obtain ⟨a, b, c, d, e, f, g, h, hs⟩ := rdn_inv h
  obtain ⟨x, rfl⟩ := rd1_ex hs
  simp [rdW1, wb, rd1_cons, rdB, rdn, ofInt_toNat]
theorem rdWs_inv : ∀ (n : Nat) {s : RS} {t : List UInt8}, (rdWs n s).2 = (t, false) → (rdWs n s).1.length = n ∧ s = (((rdWs n s).1.map wb).flatten ++ t, false)
  | 0, s, t, h => by simp [rdWs] at h ⊢; exact h
  | n + 1, s, t, h => by
    rw [rdWs] at h ⊢
    split at h
    · rename_i hb
      simp only at h
      rw [h] at hb
      simp at hb
    · rename_i hb
      simp only at h
      rw [if_neg hb]
      obtain ⟨h1, h2⟩ := rdWs_inv n h
      have h3 := rdW1_inv h2
      refine ⟨by simp [h1], ?_⟩
      simp only [List.map_cons, List.flatten_cons, List.append_assoc]
      exact h3
theorem rdWr_inv {s : RS} {t : List UInt8} (h : (rdWr s).2 = (t, false)) : s = (wsB (rdWr s).1 ++ t, false) := by
  obtain ⟨h1, h2⟩ := rdWs_inv _ h
  obtain ⟨x, hx⟩ := rd1_ex h2
  have hn : ((rdWr s).1.length : Int) = x.toNat := by
    rw [rdWr, h1, hx, rd1_cons]; rfl
  rw [wsB, hn, ofInt_toNat]
  exact hx
theorem rdFd_inv {f : Fd} {x : Ms} {s : RS} {t : List UInt8} (h : (rdFd f x s).2 = (t, false)) : s = (putF f (rdFd f x s).1 ++ t, false) := by
  cases f
  case name => exact rdNm_inv h
  case n => exact rd3_inv h
  case block => exact rd1_inv h
  case op => exact rdO_inv h
  case value => exact rdV_inv h
  case e => exact rdE_inv h
  case yes => exact rdF_inv h
  case give => exact rd1_inv h
  case take => exact rd1_inv h
  case writes => exact rdWr_inv h
theorem rdFd_other {f g : Fd} (h : f ≠ g) (x : Ms) (s : RS) : putF f (rdFd g x s).1 = putF f x := by
  cases f <;> cases g <;> first | rfl | exact absurd rfl h
theorem rds_other (fs : List Fd) {f : Fd} (h : f ∉ fs) (q : Ms × RS) : putF f (rds fs q).1 = putF f q.1 := by
  induction fs generalizing q with
  | nil => rfl
  | cons g fs ih =>
    rw [rds, ih (fun hh => h (by simp [hh])), rdFd_other (fun e => h (by simp [e]))]
theorem rds_inv {fs : List Fd} (hn : fs.Nodup) {q : Ms × RS} {t : List UInt8} (h : (rds fs q).2 = (t, false)) : q.2 = (catF fs (rds fs q).1 ++ t, false) := by
  induction fs generalizing q with
  | nil => exact h
  | cons f fs ih =>
    rw [rds] at h ⊢
    obtain ⟨h1, h2⟩ := List.nodup_cons.1 hn
    have h3 := rdFd_inv (ih h2 h)
    have h4 := rds_other fs h1 (rdFd f q.1 q.2)
    rw [show catF (f :: fs) (rds fs (rdFd f q.1 q.2)).1 = putF f (rds fs (rdFd f q.1 q.2)).1 ++ catF fs (rds fs (rdFd f q.1 q.2)).1 by simp [catF], h4, List.append_assoc]
    exact h3
theorem fields_nodup (k : Int) : (fieldsOf k).Nodup := by
  unfold fieldsOf
  repeat' split
  all_goals decide
theorem rds_head (fs : List Fd) (q : Ms × RS) : headB (rds fs q).1 = headB q.1 ∧ (rds fs q).1.kind = q.1.kind := by
  induction fs generalizing q with
  | nil => exact ⟨rfl, rfl⟩
  | cons f fs ih =>
    rw [rds]
    obtain ⟨h1, h2⟩ := ih (rdFd f q.1 q.2)
    rw [h1, h2]
    cases f <;> exact ⟨rfl, rfl⟩
theorem rdH_inv {s : RS} {t : List UInt8} (h : (rdH s).2 = (t, false)) : s = (headB (rdH s).1 ++ t, false) := by
  have h1 := rd3_inv h
  have h2 := rd3_inv h1
  have h3 := rd1_inv h2
  have h4 := rd1_inv h3
  have h5 := rd1_inv h4
  exact h5
theorem rdH_put {m : Ms} (h : headM m = true) (hk : 1 ≤ m.kind ∧ m.kind ≤ 11) (t : List UInt8) : rdH (headB m ++ t, false) = (hdM m, (t, false)) := by
  have hd := head_facts h
  have e : headB m ++ t = numB 1 m.kind ++ (numB 1 m.fr ++ (numB 1 m.to ++ (numB 3 m.inc ++ (numB 3 m.your ++ t)))) := by simp [headB, numB]
  rw [e]
  simp only [rdH]
  rw [rd1_put (by omega), rd1_put (by omega), rd1_put (by omega), rd3_put (by omega), rd3_put (by omega)]
  rfl
theorem seal_parts (l : List UInt8) : (seal_ l).take ((seal_ l).length - 4) = l ∧ (seal_ l).drop ((seal_ l).length - 4) = crcB (crc l) ∧ 4 ≤ (seal_ l).length := by
  rw [seal_length]
  simp [seal_]
theorem okB_seal (l : List UInt8) : okB (seal_ l) := by
  obtain ⟨h1, h2, h3⟩ := seal_parts l
  exact ⟨h3, by rw [h1, h2]⟩
/-- A message's bytes read as it. -/
theorem read_back {m : Ms} (h : mayM m = true) : readM (seal_ (rawM m)) = (m, 0) := by
  obtain ⟨hk, hh, _, _, he, hg⟩ := mayM_facts h
  obtain ⟨h1, h2, h3⟩ := seal_parts (rawM m)
  rw [readM, if_pos ⟨h3, by rw [h1, h2]⟩, h1]
  have hc : ∃ x t, rawM m = x :: t ∧ (x.toNat : Int) = m.kind := ⟨_, _, rfl, ofInt_nat m.kind (by omega)⟩
  obtain ⟨x, t, hx, hxk⟩ := hc
  have hM : rdM (rawM m, false) = (m, ([], false)) := by
    have hH : rdH (rawM m, false) = (hdM m, (catF (fieldsOf m.kind) m, false)) := rdH_put hh hk _
    have hR := rdM_rds (q := rdH (rawM m, false)) (k := m.kind) (by rw [hH]; rfl) hk
    rw [rdM, hR, hH]
    have := rds_put (fieldsOf m.kind) (hdM m) hg []
    rw [List.append_nil] at this
    rw [this, ← he]
  rw [hx] at hM ⊢
  rw [readL, if_neg (by omega), hM, if_pos ⟨rfl, rfl, h⟩]
/-- What reads is its message's bytes. -/
theorem read_inv {b : List UInt8} {o : Ms} (h : readM b = (o, 0)) : mayM o = true ∧ seal_ (rawM o) = b := by
  unfold readM at h
  split at h
  case isFalse => simp at h
  case isTrue hc =>
    have hb : b = seal_ (b.take (b.length - 4)) := by rw [seal_, hc.2, List.take_append_drop]
    generalize b.take (b.length - 4) = l at h hb
    cases l with
    | nil => simp [readL] at h
    | cons x t =>
      rw [readL] at h
      split at h
      · simp at h
      split at h
      · rename_i hm
        obtain ⟨g1, g2, g3⟩ := hm
        simp only [Prod.mk.injEq, and_true] at h
        subst h
        refine ⟨g3, ?_⟩
        rw [hb]
        congr 1
        have hkk : (rdH (x :: t, false)).1.kind = x.toNat := rfl
        have hk0 : (rdM (x :: t, false)).1.kind = x.toNat := by
          unfold rdM rdT rdN
          repeat' split
          all_goals rfl
        have hk := (mayM_facts g3).1
        rw [hk0] at hk
        have hM : rdM (x :: t, false) = rds (fieldsOf x.toNat) (rdH (x :: t, false)) := rdM_rds hkk hk
        have hs : (rds (fieldsOf x.toNat) (rdH (x :: t, false))).2 = ([], false) := by
          rw [← hM]
          exact Prod.ext g2 g1
        have h1 := rds_inv (fields_nodup _) hs
        rw [List.append_nil] at h1
        have h2 := rdH_inv h1
        have h3 := (rds_head (fieldsOf x.toNat) (rdH (x :: t, false))).1
        rw [rawM, hk0, hM, h3]
        exact (congrArg Prod.fst h2).symm
      · simp at h
theorem read_err (b : List UInt8) : (readM b).2 = 0 ∨ (readM b).2 = 40 := by
  unfold readM
  split
  · generalize b.take _ = l
    cases l with
    | nil => exact .inr rfl
    | cons x t =>
      rw [readL]
      repeat' split
      · exact .inr rfl
      · exact .inl rfl
      · exact .inr rfl
  · exact .inr rfl
theorem read_bad {b : List UInt8} (h : ¬ okB b) : readM b = (zM, 40) := by
  unfold okB at h
  rw [readM, if_neg h]
theorem read_bit {l : List UInt8} {p q : Nat} (hp : p < (seal_ l).length) (hq : q < 8) : readM ((seal_ l).set p ((seal_ l)[p] ^^^ UInt8.ofNat (2 ^ q))) = (zM, 40) :=
  read_bad (okB_bit (okB_seal l) hp hq)
end Go.Proofs.Ytjceilhmgbdgiaa

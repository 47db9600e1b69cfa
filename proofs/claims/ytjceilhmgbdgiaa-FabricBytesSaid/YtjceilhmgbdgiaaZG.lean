/- Messages: what the program's fields read. -/
import Derived.Test.YtjceilhmgbdgiaaZF
set_option linter.all false
namespace Go.Proofs.Ytjceilhmgbdgiaa
open Go.Am

theorem two_facts {g x : Nat} {h : List Blk} {a b : Blk} (hne : g ≠ x) (hg : h[g]? = some a) (hx : h[x]? = some b) :
    (∀ v, (h.set g v)[x]? = some b) ∧ (∀ v w, ((h.set g v).set x w)[g]? = some v) ∧ (∀ v w, ((h.set g v).set x w)[x]? = some w) ∧
    (∀ v w u, ((h.set g v).set x w).set g u = (h.set g u).set x w) := by
  have hgl := (List.getElem?_eq_some_iff.1 hg).1
  have hxl := (List.getElem?_eq_some_iff.1 hx).1
  refine ⟨fun v => by rw [List.getElem?_set_ne hne]; exact hx, fun v w => by rw [List.getElem?_set_ne (Ne.symm hne)]; exact List.getElem?_set_self hgl, fun v w => List.getElem?_set_self (by simpa using hxl), fun v w u => ?_⟩
  rw [List.set_comm _ _ (Ne.symm hne), List.set_set]
/-- A message's block, the writes' slice marked. -/
def mBt (t : Tok) (m : Ms) : Blk := .cells false [.int .i8 m.kind, .int .i64 m.fr, .int .i64 m.to, .int .i64 m.inc, .int .i64 m.your, .int .i64 m.nm.stamp, .int .i64 m.nm.inc, .int .i64 m.nm.tr, .int .i64 m.n, .int .i8 m.op, .int .i64 m.block, u8 m.val.v0, u8 m.val.v1, u8 m.val.v2, u8 m.val.v3, u8 m.val.v4, u8 m.val.v5, u8 m.val.v6, u8 m.val.v7, .int .i64 m.e, .bool m.yes, .int .i64 m.give, .int .i64 m.take, .sl t (wrs m.ws)]
def setF (f : Fd) (m x : Ms) : Ms :=
  match f with
  | .name => { x with nm := m.nm }
  | .n => { x with n := m.n }
  | .block => { x with block := m.block }
  | .op => { x with op := m.op }
  | .value => { x with val := m.val }
  | .e => { x with e := m.e }
  | .yes => { x with yes := m.yes }
  | .give => { x with give := m.give }
  | .take => { x with take := m.take }
  | .writes => { x with ws := m.ws }
/-- A field's reader g: what it makes of bytes, of a message x. -/
def GetO (g : Nat) (caps : List AV) (bs : List UInt8) (x y : Ms) : Prop := ∀ {r l : Nat} {t : List UInt8} {st : St}, r ≠ l → (bs ++ t).length ≤ 1000000 → st.heap[r]? = some (gB (bs ++ t, false)) → st.heap[l]? = some (mBt .clip x) →
    ASpec Try.prog g ([.ptr r 0, .ptr l 0] ++ caps) st fun v st' => v = .tup [] ∧ st' = ⟨(st.heap.set r (gB (t, false))).set l (mBt .clip y), st.toks⟩
theorem le_numB (many : Nat) (hm : many = 1 ∨ many = 2 ∨ many = 3) (n : Int) : (numB many n).length = many := by
  rcases hm with rfl | rfl | rfl <;> rfl
theorem ofInt_nat' (n : Int) (h : 0 ≤ n) : ((UInt8.ofInt n).toNat : Int) = n % 256 := by
  show ((UInt8.ofNat (n % 2 ^ 8).toNat).toNat : Int) = _
  rw [UInt8.toNat_ofNat']
  omega
theorem ofInt_nat (n : Int) (h : 0 ≤ n ∧ n ≤ 255) : ((UInt8.ofInt n).toNat : Int) = n := by
  rw [ofInt_nat' n h.1]
  omega
theorem leV_1 {n : Int} (h : 0 ≤ n ∧ n < 256) : leV (numB 1 n) = n := by
  show ((UInt8.ofInt n).toNat : Int) = n
  rw [ofInt_nat' n h.1]
  omega
theorem leV_2 {n : Int} (h : 0 ≤ n ∧ n < 65536) : leV (numB 2 n) = n := by
  show ((UInt8.ofInt n).toNat : Int) + (UInt8.ofInt (n / 256)).toNat * 256 = n
  rw [ofInt_nat' n h.1, ofInt_nat' _ (by omega)]
  omega
theorem leV_3 {n : Int} (h : 0 ≤ n ∧ n < 16777216) : leV (numB 3 n) = n := by
  show ((UInt8.ofInt n).toNat : Int) + (UInt8.ofInt (n / 256)).toNat * 256 + (UInt8.ofInt (n / 256 / 256)).toNat * 65536 = n
  rw [ofInt_nat' n h.1, ofInt_nat' _ (by omega), ofInt_nat' _ (by omega)]
  omega
theorem num_get {many : Nat} {n : Int} {t : List UInt8} {b : Bool} {g : Nat} {st : St} (hm : many = 1 ∨ many = 2 ∨ many = 3) (hs : (numB many n ++ t).length ≤ 1000000) (hn : leV (numB many n) = n) (hg : st.heap[g]? = some (gB (numB many n ++ t, b))) :
    ASpec Try.prog 183 [.ptr g 0, .int .i64 many] st fun v st' => v = .int .i64 n ∧ st' = ⟨st.heap.set g (gB (t, b)), st.toks⟩ := by
  have := num_ok (a := numB many n) (t := t) (b := b) (by rw [le_numB many hm]; exact hm) hs hg
  rw [le_numB many hm, hn] at this
  exact this
theorem get_e {m x : Ms} (hn : 0 ≤ m.e ∧ m.e < 65536) : GetO 202 [] (numB 2 m.e) x (setF .e m x) := by
  intro r l t st hne hs hr hl
  refine raw_of C3s F202 rfl ?_
  obtain ⟨p1, p2, p3, p4⟩ := two_facts hne hr hl
  have hM : ∀ t m, mBt t m = .cells false [.int .i8 m.kind, .int .i64 m.fr, .int .i64 m.to, .int .i64 m.inc, .int .i64 m.your, .int .i64 m.nm.stamp, .int .i64 m.nm.inc, .int .i64 m.nm.tr, .int .i64 m.n, .int .i8 m.op, .int .i64 m.block, u8 m.val.v0, u8 m.val.v1, u8 m.val.v2, u8 m.val.v3, u8 m.val.v4, u8 m.val.v5, u8 m.val.v6, u8 m.val.v7, .int .i64 m.e, .bool m.yes, .int .i64 m.give, .int .i64 m.take, .sl t (wrs m.ws)] := fun _ _ => rfl
  have hw : IntKind.i64.wrap m.e = m.e := IntWalk.i64_in _ (by omega)
  simp (disch := first | omega | (simp only [LL]; omega)) [WW, c202]
  refine (num_get (many := 2) (by simp) hs (leV_2 hn) hr).mono ?_
  rintro _ _ ⟨rfl, rfl⟩
  clear hr hl
  simp (disch := first | omega | (simp only [LL]; omega)) [WW, p1, hM, hw]
  exact .inl ⟨by simp, by simp, rfl, by simp [setF]⟩
theorem get_num {x y : Ms} {f off many : Nat} {n : Int} (hf : (f = 194 ∧ off = 8 ∧ y = { x with n := n }) ∨ (f = 195 ∧ off = 10 ∧ y = { x with block := n }) ∨ (f = 205 ∧ off = 21 ∧ y = { x with give := n }) ∨ (f = 206 ∧ off = 22 ∧ y = { x with take := n })) (hC : C3 f = fun _ => none) (hm : many = 1 ∨ many = 2 ∨ many = 3) (hn : leV (numB many n) = n) :
    GetO 191 [.rptr (.int .i64 many), .rptr (fnA f)] (numB many n) x y := by
  intro r l t st hne hs hr hl
  refine raw_of C3s F191 rfl ?_
  obtain ⟨p1, p2, p3, p4⟩ := two_facts hne hr hl
  have hM : ∀ t m, mBt t m = .cells false [.int .i8 m.kind, .int .i64 m.fr, .int .i64 m.to, .int .i64 m.inc, .int .i64 m.your, .int .i64 m.nm.stamp, .int .i64 m.nm.inc, .int .i64 m.nm.tr, .int .i64 m.n, .int .i8 m.op, .int .i64 m.block, u8 m.val.v0, u8 m.val.v1, u8 m.val.v2, u8 m.val.v3, u8 m.val.v4, u8 m.val.v5, u8 m.val.v6, u8 m.val.v7, .int .i64 m.e, .bool m.yes, .int .i64 m.give, .int .i64 m.take, .sl t (wrs m.ws)] := fun _ _ => rfl
  simp (disch := first | omega | (simp only [LL]; omega)) [WW, c191]
  refine region_state [183] [0] [0, 1, 3, 4, 2, 5, 6, 7] (by decide +kernel) ?_
  simp (disch := first | omega | (simp only [LL]; omega)) [WW, hC]
  have hat : (f = 194 ∧ off = 8) ∨ (f = 195 ∧ off = 10) ∨ (f = 205 ∧ off = 21) ∨ (f = 206 ∧ off = 22) := by rcases hf with h | h | h | h <;> simp [h.1, h.2.1]
  refine (at_spec f off hat _).mono ?_
  rintro _ _ ⟨rfl, rfl⟩
  refine ⟨fun _ => ⟨List.prefix_refl _, List.prefix_refl _⟩, ?_⟩
  simp (disch := first | omega | (simp only [LL]; omega)) [WW]
  refine (num_get hm hs hn hr).mono ?_
  rintro _ _ ⟨rfl, rfl⟩
  clear hr hl hs hat
  rcases hf with ⟨rfl, rfl, rfl⟩ | ⟨rfl, rfl, rfl⟩ | ⟨rfl, rfl, rfl⟩ | ⟨rfl, rfl, rfl⟩
  all_goals
    simp (disch := first | omega | (simp only [LL]; omega)) [WW, p1, hM]
    exact .inl ⟨by simp, by simp, rfl, by simp⟩
theorem andI_low (k : Int) (h : 0 ≤ k ∧ k ≤ 127) : andI k 127 = k := by
  obtain ⟨n, rfl⟩ := Int.eq_ofNat_of_zero_le h.1
  have h1 := and_low n 7 127 (by decide) (by omega) (by decide)
  have h2 : some (AV.int .i64 (andI (n : Int) 127)) = some (AV.int .i64 ((n % 2 ^ 7 : Nat) : Int)) := h1
  simp only [Option.some.injEq, AV.int.injEq, true_and] at h2
  rw [h2]
  omega
theorem get_op {m x : Ms} (hn : 0 ≤ m.op ∧ m.op ≤ 100) : GetO 197 [] (numB 1 m.op) x (setF .op m x) := by
  intro r l t st hne hs hr hl
  refine raw_of C3s F197 rfl ?_
  obtain ⟨p1, p2, p3, p4⟩ := two_facts hne hr hl
  have hM : ∀ t m, mBt t m = .cells false [.int .i8 m.kind, .int .i64 m.fr, .int .i64 m.to, .int .i64 m.inc, .int .i64 m.your, .int .i64 m.nm.stamp, .int .i64 m.nm.inc, .int .i64 m.nm.tr, .int .i64 m.n, .int .i8 m.op, .int .i64 m.block, u8 m.val.v0, u8 m.val.v1, u8 m.val.v2, u8 m.val.v3, u8 m.val.v4, u8 m.val.v5, u8 m.val.v6, u8 m.val.v7, .int .i64 m.e, .bool m.yes, .int .i64 m.give, .int .i64 m.take, .sl t (wrs m.ws)] := fun _ _ => rfl
  have hG : ∀ s, gB s = .cells false [.sl .any (ofBytes s.1), .bool s.2] := fun _ => rfl
  obtain ⟨f1, f2, f3, f4, f5⟩ := at_facts hr
  have ha := andI_low m.op (by omega)
  have hw : IntKind.i8.wrap m.op = m.op := IntWalk.i8_in _ (by omega)
  have h127 : ¬ 127 < m.op := by omega
  simp (disch := first | omega | (simp only [LL]; omega)) [WW, c197]
  refine (num_get (many := 1) (by simp) hs (leV_1 (by omega)) hr).mono ?_
  rintro _ _ ⟨rfl, rfl⟩
  clear hr hl
  simp (disch := first | omega | (simp only [LL]; omega)) [WW, p1, hM, hG, f3, ha, hw, h127]
  exact .inl ⟨by simp, by simp, rfl, by simp [setF]⟩
theorem get_yes {m x : Ms} : GetO 204 [] [if m.yes then 1 else 0] x (setF .yes m x) := by
  intro r l t st hne hs hr hl
  refine raw_of C3s F204 rfl ?_
  obtain ⟨p1, p2, p3, p4⟩ := two_facts hne hr hl
  have hM : ∀ t m, mBt t m = .cells false [.int .i8 m.kind, .int .i64 m.fr, .int .i64 m.to, .int .i64 m.inc, .int .i64 m.your, .int .i64 m.nm.stamp, .int .i64 m.nm.inc, .int .i64 m.nm.tr, .int .i64 m.n, .int .i8 m.op, .int .i64 m.block, u8 m.val.v0, u8 m.val.v1, u8 m.val.v2, u8 m.val.v3, u8 m.val.v4, u8 m.val.v5, u8 m.val.v6, u8 m.val.v7, .int .i64 m.e, .bool m.yes, .int .i64 m.give, .int .i64 m.take, .sl t (wrs m.ws)] := fun _ _ => rfl
  have hG : ∀ s, gB s = .cells false [.sl .any (ofBytes s.1), .bool s.2] := fun _ => rfl
  obtain ⟨f1, f2, f3, f4, f5⟩ := at_facts hr
  simp (disch := first | omega | (simp only [LL]; omega)) [WW, c204]
  cases hy : m.yes with
  | true =>
    rw [hy] at hr hs
    refine (num_get (many := 1) (n := 1) (by simp) hs (by decide) hr).mono ?_
    rintro _ _ ⟨rfl, rfl⟩
    clear hr hl
    simp (disch := first | omega | (simp only [LL]; omega)) [WW, p1, hM, hG, f3]
    exact .inl ⟨by simp, by simp, rfl, by simp [setF, hy]⟩
  | false =>
    rw [hy] at hr hs
    refine (num_get (many := 1) (n := 0) (by simp) hs (by decide) hr).mono ?_
    rintro _ _ ⟨rfl, rfl⟩
    clear hr hl
    simp (disch := first | omega | (simp only [LL]; omega)) [WW, p1, hM, hG, f3]
    exact .inl ⟨by simp, by simp, rfl, by simp [setF, hy]⟩
theorem sized_set {st : St} {g : Nat} {f : Bool} {vs : List AV} (h : st.heap[g]? = some (.cells f vs)) (f' : Bool) (vs' : List AV) (hl : vs'.length = vs.length) (tk : List (Nat × Nat)) : sized st ⟨st.heap.set g (.cells f' vs'), tk⟩ := by
  intro l fl ws hw
  by_cases hlg : g = l
  · subst hlg
    rw [h] at hw
    injection hw with hw
    injection hw with h1 h2
    subst h2
    exact ⟨f', vs', List.getElem?_set_self (List.getElem?_eq_some_iff.1 h).1, hl⟩
  · exact ⟨fl, ws, by show (st.heap.set g _)[l]? = _; rw [List.getElem?_set_ne hlg]; exact hw, rfl⟩
theorem get_value {m x : Ms} : GetO 199 [] (vlB m.val) x (setF .value m x) := by
  intro r l t st hne hs hr hl
  refine raw_of C3s F199 rfl ?_
  obtain ⟨p1, p2, p3, p4⟩ := two_facts hne hr hl
  have hM : ∀ t m, mBt t m = .cells false [.int .i8 m.kind, .int .i64 m.fr, .int .i64 m.to, .int .i64 m.inc, .int .i64 m.your, .int .i64 m.nm.stamp, .int .i64 m.nm.inc, .int .i64 m.nm.tr, .int .i64 m.n, .int .i8 m.op, .int .i64 m.block, u8 m.val.v0, u8 m.val.v1, u8 m.val.v2, u8 m.val.v3, u8 m.val.v4, u8 m.val.v5, u8 m.val.v6, u8 m.val.v7, .int .i64 m.e, .bool m.yes, .int .i64 m.give, .int .i64 m.take, .sl t (wrs m.ws)] := fun _ _ => rfl
  have hG : ∀ s, gB s = .cells false [.sl .any (ofBytes s.1), .bool s.2] := fun _ => rfl
  rw [hM] at hl p1
  simp (disch := first | omega | (simp only [LL]; omega)) [WW, c199]
  refine region_sized [] [] [200] [0, 1, 2, 3, 4, 5, 6] (by decide +kernel) ?_
  simp (disch := first | omega | (simp only [LL]; omega)) [WW, hl]
  refine (take_ok (a := vlB m.val) hs hr).mono ?_
  rintro _ _ ⟨rfl, rfl⟩
  refine ⟨fun _ => ?_, ?_⟩
  · rw [hG] at hr ⊢
    refine sized_set hr false _ ?_ _
    rfl
  clear hr hl
  simp (disch := first | omega | (simp only [LL]; omega)) [WW, p1, vlB]
  exact .inl ⟨by simp, by simp, rfl, by simp [setF, mBt, setRange, ofBytes, u8]⟩
theorem get_name {m x : Ms} (hn : (0 ≤ m.nm.stamp ∧ m.nm.stamp < 16777216) ∧ (0 ≤ m.nm.inc ∧ m.nm.inc < 16777216) ∧ (0 ≤ m.nm.tr ∧ m.nm.tr < 16777216)) : GetO 193 [] (putF .name m) x (setF .name m x) := by
  intro r l t st hne hs hr hl
  refine raw_of C3s F193 rfl ?_
  obtain ⟨p1, p2, p3, p4⟩ := two_facts hne hr hl
  have hM : ∀ t m, mBt t m = .cells false [.int .i8 m.kind, .int .i64 m.fr, .int .i64 m.to, .int .i64 m.inc, .int .i64 m.your, .int .i64 m.nm.stamp, .int .i64 m.nm.inc, .int .i64 m.nm.tr, .int .i64 m.n, .int .i8 m.op, .int .i64 m.block, u8 m.val.v0, u8 m.val.v1, u8 m.val.v2, u8 m.val.v3, u8 m.val.v4, u8 m.val.v5, u8 m.val.v6, u8 m.val.v7, .int .i64 m.e, .bool m.yes, .int .i64 m.give, .int .i64 m.take, .sl t (wrs m.ws)] := fun _ _ => rfl
  simp only [putF, List.append_assoc] at hr hs
  have hlen : ∀ n, (numB 3 n).length = 3 := fun _ => rfl
  simp only [List.length_append, hlen] at hs
  simp (disch := first | omega | (simp only [LL]; omega)) [WW, c193]
  refine region_static rfl (by decide +kernel) ?_
  simp (disch := first | omega | (simp only [LL]; omega)) [WW]
  refine awC_loopU 4 ?_
  simp (disch := first | omega | (simp only [LL]; omega)) [WW]
  refine (num_get (many := 3) (by simp) (by simp [hlen]; omega) (leV_3 hn.1) hr).mono ?_
  rintro _ _ ⟨rfl, rfl⟩
  clear hr hl
  simp (disch := first | omega | (simp only [LL]; omega)) [WW, p1, hM]
  refine (num_get (many := 3) (by simp) (by simp [hlen]; omega) (leV_3 hn.2.1) (p2 _ _)).mono ?_
  rintro _ _ ⟨rfl, rfl⟩
  simp (disch := first | omega | (simp only [LL]; omega)) [WW, p3, p4, hM]
  refine (num_get (many := 3) (by simp) (by simp [hlen]; omega) (leV_3 hn.2.2) (p2 _ _)).mono ?_
  rintro _ _ ⟨rfl, rfl⟩
  simp (disch := first | omega | (simp only [LL]; omega)) [WW, p3, p4, hM]
  exact .inl ⟨by simp, by simp, rfl, by simp [setF]⟩
end Go.Proofs.Ytjceilhmgbdgiaa

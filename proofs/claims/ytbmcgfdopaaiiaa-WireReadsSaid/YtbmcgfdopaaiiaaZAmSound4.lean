/- The abstract machine's operations are sound: lengths, slice expressions, composites, conversions. -/
import Derived.Test.YtbmcgfdopaaiiaaZAmSound3
set_option linter.all false
namespace Go.Am

theorem VRel.sl_len {G : Gh} {w : World} {t : Tok} {es : List AV} {y : Value} (h : VRel G w (.sl t es) y) : ∃ a cap, y = .slice a es.length cap ∧ es.length ≤ cap := by
  cases h with
  | slnil => exact ⟨none, 0, rfl, Nat.le_refl _⟩
  | slz _ a => exact ⟨some a, 0, rfl, Nat.le_refl _⟩
  | sl _ _ b o cap sz cv _ h2 => exact ⟨_, cap, rfl, h2⟩

theorem len_sound {P : Program} {G : Gh} {w : World} {t ty e : TypeId} {x v : AV} {y : Value} (hu : P.underlying t = some (.slice e)) (h : evP .len [x] = some v) (hx : VRel G w x y) :
    ∃ u, (Builtin.len_ #[t] ty #[y]).run P w = .ok u w ∧ VRel G w v u := by
  cases x <;> simp [evP] at h
  · subst h
    obtain ⟨a, cap, rfl, _⟩ := hx.sl_len
    exact ⟨_, by simp [Builtin.len_, run_underlying hu]; rfl, .int _ _⟩
  · subst h
    cases hx
    exact ⟨_, by simp [Builtin.len_, run_underlying hu]; rfl, .int _ _⟩

theorem lenStr_sound {P : Program} {G : Gh} {w : World} {t ty : TypeId} {x v : AV} {y : Value} (hu : P.underlying t = some .string) (h : evP .lenStr [x] = some v) (hx : VRel G w x y) :
    ∃ u, (Builtin.len_ #[t] ty #[y]).run P w = .ok u w ∧ VRel G w v u := by
  cases x <;> simp [evP] at h
  rename_i l
  subst h
  rw [hx.str_inv]
  refine ⟨.int .i64 l.length, ?_, .int _ _⟩
  simp [Builtin.len_, run_underlying hu, goInt]
  simp [ByteArray.size]

theorem sliceBound_run {P : Program} {w : World} {k : IntKind} {i : Int} {y : Nat} (c : BoundsCode) (h : 0 ≤ i ∧ i ≤ y) : (Instr.sliceBound (.int k i) y c).run P w = .ok i.toNat w := by
  simp only [Instr.sliceBound, asIntOf, Sem.run_bind, Sem.run_pure, Result.andThen]
  rw [if_pos h]
  rfl

def OptRel (G : Gh) (w : World) : Option AV → Option Value → Prop
  | none, none => True
  | some a, some b => VRel G w a b
  | _, _ => False

def ListRel (G : Gh) (w : World) (xs : List AV) (ys : List Value) : Prop :=
  xs.length = ys.length ∧ ∀ (i : Nat) (c : AV) (v : Value), xs[i]? = some c → ys[i]? = some v → VRel G w c v

theorem ListRel.cons_inv {G : Gh} {w : World} {xs : List AV} {y : Value} {ys : List Value} (h : ListRel G w xs (y :: ys)) : ∃ x xs', xs = x :: xs' ∧ VRel G w x y ∧ ListRel G w xs' ys := by
  obtain ⟨h1, h2⟩ := h
  cases xs with
  | nil => simp at h1
  | cons x xs => exact ⟨x, xs, rfl, h2 0 x y rfl rfl, by simpa using h1, fun i c v hc hv => h2 (i + 1) c v (by simpa using hc) (by simpa using hv)⟩

theorem ListRel.nil_inv {G : Gh} {w : World} {xs : List AV} (h : ListRel G w xs []) : xs = [] := by
  obtain ⟨h1, h2⟩ := h
  cases xs with
  | nil => rfl
  | cons x xs => simp at h1

theorem args3_rel {G : Gh} {w : World} {lo hi mx : Option Value} {bs : List AV} {a b c : Option AV} (hr : ListRel G w bs (lo.toList ++ hi.toList ++ mx.toList)) (h : args3 lo.isSome hi.isSome mx.isSome bs = some (a, b, c)) :
    OptRel G w a lo ∧ OptRel G w b hi ∧ OptRel G w c mx := by
  cases lo <;> cases hi <;> cases mx <;> simp only [Option.toList_none, Option.toList_some, List.nil_append, List.cons_append, List.append_nil, Option.isSome_none, Option.isSome_some] at hr h
  · rw [hr.nil_inv] at h; simp [args3] at h; obtain ⟨rfl, rfl, rfl⟩ := h; exact ⟨trivial, trivial, trivial⟩
  all_goals
    obtain ⟨x, xs, rfl, hx, hr⟩ := hr.cons_inv
    first
      | (rw [hr.nil_inv] at h; simp [args3] at h; obtain ⟨rfl, rfl, rfl⟩ := h; exact ⟨by first | trivial | exact hx, by first | trivial | exact hx, by first | trivial | exact hx⟩)
      | (obtain ⟨x2, xs2, rfl, hx2, hr⟩ := hr.cons_inv
         first
          | (rw [hr.nil_inv] at h; simp [args3] at h; obtain ⟨rfl, rfl, rfl⟩ := h; exact ⟨by first | trivial | exact hx | exact hx2, by first | trivial | exact hx2 | exact hx, by first | trivial | exact hx2 | exact hx⟩)
          | (obtain ⟨x3, xs3, rfl, hx3, hr⟩ := hr.cons_inv
             rw [hr.nil_inv] at h; simp [args3] at h; obtain ⟨rfl, rfl, rfl⟩ := h; exact ⟨hx, hx2, hx3⟩))

theorem bnd1_run {P : Program} {G : Gh} {w : World} {x : Option AV} {y : Value} {d top n : Nat} {top' : Nat} (ht : top ≤ top') (c : BoundsCode) (h : bnd1 x d top = some n) (hr : OptRel G w x (some y)) : (Instr.sliceBound y top' c).run P w = .ok n w ∧ n ≤ top := by
  unfold bnd1 at h
  cases x with
  | none => exact hr.elim
  | some x =>
    cases x with
    | int k i =>
      simp only [] at h
      split at h
      · rename_i hc
        injection h with h
        subst h
        cases hr
        exact ⟨sliceBound_run c ⟨hc.1, by omega⟩, by omega⟩
      · cases h
    | _ => simp at h

theorem bounds_run {P : Program} {w : World} {G : Gh} {lo hi mx : Option Value} {isSlice : Bool} {len cap : Nat} {x1 x2 x3 : Option AV} {a b : Nat} {m : Option Nat} (hcap : len ≤ cap) (h : bounds x1 x2 x3 len = some (a, b, m))
    (h1 : OptRel G w x1 lo) (h2 : OptRel G w x2 hi) (h3 : OptRel G w x3 mx) :
    (Instr.sliceBounds isSlice len cap lo hi mx).run P w = .ok (a, b, m.getD cap) w ∧ a ≤ b ∧ b ≤ len ∧ (∀ m', m = some m' → b ≤ m' ∧ m' ≤ len) := by
  have hlo : ∀ (top l : Nat), bnd1 x1 0 top = some l → (match lo with | some v => Instr.sliceBound v top (if mx.isSome then .slice3C else .sliceB) | none => (pure 0 : Sem Nat)).run P w = .ok l w ∧ l ≤ top := by
    intro top l hb
    cases lo with
    | none =>
      cases x1 with
      | none => simp [bnd1] at hb; subst hb; exact ⟨rfl, Nat.zero_le _⟩
      | some _ => exact h1.elim
    | some v => exact bnd1_run (Nat.le_refl _) _ hb h1
  cases x3 with
  | none =>
    cases mx with
    | some _ => exact h3.elim
    | none =>
      simp only [bounds] at h
      cases hb : bnd1 x2 len len with
      | none => simp [hb] at h
      | some hh =>
        cases hl : bnd1 x1 0 hh with
        | none => simp [hb, hl] at h
        | some l =>
          simp [hb, hl] at h
          obtain ⟨rfl, rfl, rfl⟩ := h
          obtain ⟨q1, q2⟩ := hlo _ _ hl
          cases hi with
          | none =>
            cases x2 with
            | some _ => exact h2.elim
            | none =>
              simp [bnd1] at hb
              subst hb
              refine ⟨?_, q2, Nat.le_refl _, fun m' e => by cases e⟩
              cases lo <;> simp_all [Instr.sliceBounds]
          | some v =>
            obtain ⟨p1, p2⟩ := bnd1_run (P := P) hcap (if isSlice then .sliceAcap else .sliceAlen) hb h2
            refine ⟨?_, q2, p2, fun m' e => by cases e⟩
            cases lo <;> simp_all [Instr.sliceBounds]
  | some xm =>
    cases mx with
    | none => exact h3.elim
    | some vm =>
      cases x2 with
      | none => simp [bounds] at h
      | some xh =>
        cases hi with
        | none => exact h2.elim
        | some vh =>
          simp only [bounds] at h
          cases hm : bnd1 (some xm) 0 len with
          | none => simp [hm] at h
          | some mm =>
            cases hb : bnd1 (some xh) 0 mm with
            | none => simp [hm, hb] at h
            | some hh =>
              cases hl : bnd1 x1 0 hh with
              | none => simp [hm, hb, hl] at h
              | some l =>
                simp [hm, hb, hl] at h
                obtain ⟨rfl, rfl, rfl⟩ := h
                obtain ⟨q1, q2⟩ := hlo _ _ hl
                obtain ⟨p1, p2⟩ := bnd1_run (P := P) hcap (if isSlice then .slice3Acap else .slice3Alen) hm h3
                obtain ⟨r1, r2⟩ := bnd1_run (P := P) (Nat.le_refl _) .slice3B hb h2
                refine ⟨?_, q2, by omega, fun m' e => by injection e with e; subst e; exact ⟨r2, p2⟩⟩
                cases lo <;> simp_all [Instr.sliceBounds]

theorem boundsOf_run {P : Program} {w : World} {G : Gh} {lo hi mx : Option Value} (isSlice : Bool) {len cap : Nat} {bs : List AV} {a b : Nat} {m : Option Nat} (hcap : len ≤ cap) (h : boundsOf lo.isSome hi.isSome mx.isSome len bs = some (a, b, m))
    (hr : ListRel G w bs (lo.toList ++ hi.toList ++ mx.toList)) :
    (Instr.sliceBounds isSlice len cap lo hi mx).run P w = .ok (a, b, m.getD cap) w ∧ a ≤ b ∧ b ≤ len ∧ (∀ m', m = some m' → b ≤ m' ∧ m' ≤ len) := by
  unfold boundsOf at h
  cases h3 : args3 lo.isSome hi.isSome mx.isSome bs with
  | none => simp [h3] at h
  | some x =>
    obtain ⟨x1, x2, x3⟩ := x
    simp [h3] at h
    obtain ⟨q1, q2, q3⟩ := args3_rel hr h3
    exact bounds_run hcap h q1 q2 q3


theorem extract_bytes (l : List UInt8) (a b : Nat) (h : b ≤ l.length) : (⟨l.toArray⟩ : ByteArray).extract a b = ⟨((l.drop a).take (b - a)).toArray⟩ := by
  apply ByteArray.ext
  simp [ByteArray.data_extract]

theorem slcStr_sound {P : Program} {G : Gh} {w : World} {t : TypeId} {lo hi : Option Value} {x v : AV} {bs : List AV} {y : Value} (hu : P.underlying t = some .string) (h : evP (.slcStr lo.isSome hi.isSome) (x :: bs) = some v) (hx : VRel G w x y)
    (hr : ListRel G w bs (lo.toList ++ hi.toList)) : ∃ u, (Instr.sliceAt t y lo hi none).run P w = .ok u w ∧ VRel G w v u := by
  cases x <;> simp [evP] at h
  rename_i l
  obtain ⟨a, b, ⟨m, hb⟩, rfl⟩ := h
  have hs : (⟨l.toArray⟩ : ByteArray).size = l.length := by simp [ByteArray.size]
  obtain ⟨q1, q2, q3, q4⟩ := boundsOf_run (P := P) (w := w) (G := G) (lo := lo) (hi := hi) (mx := none) false (Nat.le_refl l.length) (by simpa using hb) (by simpa using hr)
  rw [hx.str_inv]
  refine ⟨.string ⟨((l.drop a).take (b - a)).toArray⟩, ?_, VRel.str' _⟩
  simp only [Instr.sliceAt, Instr.slice, Sem.run_bind, run_underlying hu, Result.andThen, hs, q1]
  simp [extract_bytes l a b q3, q1, hs]

theorem flat_drop {es : List AV} {sz : Nat} (h : ∀ e ∈ es, e.cells.length = sz) (a : Nat) : flat (es.drop a) = (flat es).drop (a * sz) := by
  induction a generalizing es with
  | zero => simp
  | succ a ih =>
    cases es with
    | nil => simp [flat]
    | cons e es =>
      have he := h e (by simp)
      rw [List.drop_succ_cons, ih (fun x hx => h x (by simp [hx]))]
      simp only [flat, List.flatMap_cons]
      have h0 : List.drop ((a + 1) * sz) e.cells = [] := List.drop_eq_nil_of_le (by rw [he, Nat.succ_mul]; omega)
      rw [List.drop_append, h0, he, show (a + 1) * sz - sz = a * sz by rw [Nat.succ_mul]; omega]
      rfl

theorem flat_take {es : List AV} {sz : Nat} (h : ∀ e ∈ es, e.cells.length = sz) (a : Nat) : flat (es.take a) = (flat es).take (a * sz) := by
  induction a generalizing es with
  | zero => simp [flat]
  | succ a ih =>
    cases es with
    | nil => simp [flat]
    | cons e es =>
      have he := h e (by simp)
      have := ih (es := es) (fun x hx => h x (by simp [hx]))
      simp only [flat] at this
      simp only [List.take_succ_cons, flat, List.flatMap_cons]
      have h0 : List.take ((a + 1) * sz) e.cells = e.cells := List.take_of_length_le (by rw [he, Nat.succ_mul]; omega)
      rw [this, List.take_append, h0, he, show (a + 1) * sz - sz = a * sz by rw [Nat.succ_mul]; omega]

theorem slTok_nil {G : Gh} (t : Tok) (b len : Nat) (m : Option Nat) : TokNil G (slTok t b len m) := by
  unfold slTok
  cases m <;> simp only [] <;> split <;> trivial

theorem slTok_ok {G : Gh} {w : World} {t : Tok} {a b len cap bb o sz : Nat} {m : Option Nat} (h : t = .clip → cap = len) (o' : Nat) : TokOk G w (slTok t b len m) (b - a) bb o' (m.getD cap - a) sz := by
  unfold slTok
  cases m with
  | none =>
    simp only []
    split
    · rename_i hc
      have := h hc.1
      show cap - a = b - a
      omega
    · trivial
  | some m' =>
    simp only []
    split
    · show m' - a = b - a
      omega
    · trivial

/-- A slice value's part. -/
theorem VRel.sl_sub {G : Gh} {w : World} {t' : Tok} {es : List AV} {b o sz : Nat} {cv : Nat → Value} {a c cap' o' : Nat}
    (h1 : ∀ e ∈ es, e.cells.length = sz) (h3 : ∀ (j : Nat) (c : AV), (flat es)[j]? = some c → G.imm b (o + j) ∧ w.cell? ⟨b, o + j, none⟩ = some (cv j) ∧ (cv j).oneCell' = true)
    (h4 : ∀ (j : Nat) (c : AV), (flat es)[j]? = some c → VRel G w c (cv j)) (hac : a ≤ c) (hc : c ≤ es.length) (hcap : c - a ≤ cap') (ho : c - a = 0 ∨ o' = o + a * sz)
    (ht : TokOk G w t' (c - a) b o' cap' sz) : VRel G w (.sl t' ((es.drop a).take (c - a))) (.slice (some ⟨b, o', none⟩) (c - a) cap') := by
  have hl : ((es.drop a).take (c - a)).length = c - a := by simp; omega
  have hf : flat ((es.drop a).take (c - a)) = ((flat es).drop (a * sz)).take ((c - a) * sz) := by
    rw [flat_take (sz := sz) (fun e he => h1 e (List.mem_of_mem_drop he)), flat_drop h1]
  have key : ∀ (j : Nat) (x : AV), (flat ((es.drop a).take (c - a)))[j]? = some x → (flat es)[a * sz + j]? = some x ∧ o' + j = o + (a * sz + j) := by
    intro j x hj
    rw [hf, List.getElem?_take, List.getElem?_drop] at hj
    split at hj
    · rename_i hlt
      rcases ho with ho | ho
      · rw [ho] at hlt; omega
      · exact ⟨hj, by omega⟩
    · cases hj
  have := VRel.sl (G := G) (w := w) t' ((es.drop a).take (c - a)) b o' cap' sz (fun j => cv (a * sz + j)) (fun e he => h1 e (List.mem_of_mem_drop (List.mem_of_mem_take he))) (hl.symm ▸ hcap)
    (fun j x hj => by obtain ⟨k1, k2⟩ := key j x hj; rw [k2]; exact h3 _ x k1) (fun j x hj => h4 _ x (key j x hj).1) (hl.symm ▸ ht)
  rwa [hl] at this

theorem slcSl_sound {P : Program} {G : Gh} {w : World} {st : St} {t e : TypeId} {sz : Option Nat} {lo hi mx : Option Value} {x v : AV} {bs : List AV} {y : Value} (hu : P.underlying t = some (.slice e)) (hs : szOf P e = some sz) (hI : Inv G w st)
    (h : evP (.slcSl sz lo.isSome hi.isSome mx.isSome) (x :: bs) = some v) (hx : VRel G w x y) (hr : ListRel G w bs (lo.toList ++ hi.toList ++ mx.toList)) :
    ∃ u, (Instr.sliceAt t y lo hi mx).run P w = .ok u w ∧ VRel G w v u := by
  obtain ⟨_, hz, hpos⟩ := szOf_run hs w
  cases x with
  | sl tk es =>
    simp only [evP] at h
    cases hb : boundsOf lo.isSome hi.isSome mx.isSome es.length bs with
    | none => simp [hb] at h
    | some r =>
      obtain ⟨a, b, m⟩ := r
      simp only [hb, Option.bind_some] at h
      split at h
      · rename_i hall
        injection h with h
        cases hx with
        | slnil _ htn =>
          obtain ⟨q1, q2, q3, q4⟩ := boundsOf_run (P := P) (w := w) (G := G) (cap := 0) true (Nat.le_refl _) hb hr
          have hb0 : b = 0 := by simpa using q3
          have ha0 : a = 0 := by omega
          subst hb0; subst ha0
          have hm : m.getD 0 = 0 := by
            cases m with
            | none => rfl
            | some m' => have := (q4 m' rfl).2; simp at this; simp [this]
          refine ⟨.slice none 0 0, ?_, ?_⟩
          · simp only [Instr.sliceAt, Instr.slice, Sem.run_bind, run_underlying hu, Result.andThen, q1, hz, hm]
            rfl
          · rw [← h]
            exact .slnil _ (slTok_nil _ _ _ _)
        | slz _ ad htn =>
          obtain ⟨q1, q2, q3, q4⟩ := boundsOf_run (P := P) (w := w) (G := G) (cap := 0) true (Nat.le_refl _) hb hr
          have hb0 : b = 0 := by simpa using q3
          have ha0 : a = 0 := by omega
          subst hb0; subst ha0
          have hm : m.getD 0 = 0 := by
            cases m with
            | none => rfl
            | some m' => have := (q4 m' rfl).2; simp at this; simp [this]
          refine ⟨.slice (some ad) 0 0, ?_, ?_⟩
          · simp only [Instr.sliceAt, Instr.slice, Sem.run_bind, run_underlying hu, Result.andThen, q1, hz, hm]
            rfl
          · rw [← h]
            exact .slz _ _ (slTok_nil _ _ _ _)
        | sl _ _ bb o cap sz' cv h1 h2 h3 h4 h5 =>
          obtain ⟨q1, q2, q3, q4⟩ := boundsOf_run (P := P) (w := w) (G := G) (cap := cap) true h2 hb hr
          have hszz : es ≠ [] → sz' = sz.getD 1 := fun hne => by
            obtain ⟨e0, he0⟩ := List.exists_mem_of_ne_nil _ hne
            have := h1 e0 he0
            simp only [allSz, List.all_eq_true, beq_iff_eq] at hall
            rw [← this]; exact hall e0 he0
          have hmc : m.getD cap ≤ cap ∧ b ≤ m.getD cap := by
            cases m with
            | none => simp; omega
            | some m' => have := q4 m' rfl; simp; omega
          by_cases hma : m.getD cap = a
          · -- nothing is left: the address stays
            have hba : b - a = 0 := by omega
            refine ⟨.slice (some ⟨bb, o, none⟩) (b - a) (m.getD cap - a), ?_, ?_⟩
            · simp only [Instr.sliceAt, Instr.slice, Sem.run_bind, run_underlying hu, Result.andThen, q1, hz]
              rw [if_pos hma]
              rfl
            · rw [← h]
              exact VRel.sl_sub h1 h3 h4 q2 q3 (by omega) (.inl hba) (slTok_ok (o := o) (fun e => by subst e; exact h5) _)
          · refine ⟨.slice (some ⟨bb, o + a * sz.getD 1, none⟩) (b - a) (m.getD cap - a), ?_, ?_⟩
            · simp only [Instr.sliceAt, Instr.slice, Sem.run_bind, run_underlying hu, Result.andThen, q1, hz]
              rw [if_neg hma]
              simp [addr_add]
            · rw [← h]
              refine VRel.sl_sub h1 h3 h4 q2 q3 (by omega) ?_ (slTok_ok (o := o) (fun e => by subst e; exact h5) _)
              by_cases hne : es = []
              · left; subst hne; simp at q3; omega
              · right; rw [hszz hne]
      · cases h
  | msl l off len sz' =>
    simp only [evP] at h
    cases hb : boundsOf lo.isSome hi.isSome mx.isSome len bs with
    | none => simp [hb] at h
    | some r =>
      obtain ⟨a, b, m⟩ := r
      simp only [hb, Option.bind_some] at h
      split at h
      · rename_i hc
        obtain ⟨rfl, rfl, hc0⟩ := hc
        injection h with h
        subst h
        cases hx with
        | msl _ _ _ _ B cap z h1 h2 h3 h4 =>
          obtain ⟨q1, q2, q3, _⟩ := boundsOf_run (P := P) (w := w) (G := G) (cap := cap) true h2 hb hr
          simp only [Option.getD_none] at q1
          by_cases hma : cap = a
          · have ha0 : a = 0 := by omega
            subst ha0
            refine ⟨.slice (some ⟨B, off, none⟩) (b - 0) (cap - 0), ?_, ?_⟩
            · simp only [Instr.sliceAt, Instr.slice, Sem.run_bind, run_underlying hu, Result.andThen, q1, hz]
              rw [if_pos hma]
              rfl
            · simp only [Nat.zero_mul, Nat.add_zero]
              exact .msl _ _ _ _ B (cap - 0) z h1 (by omega) h3 (by simpa using h4)
          · refine ⟨.slice (some ⟨B, off + a * sz.getD 1, none⟩) (b - a) (cap - a), ?_, ?_⟩
            · simp only [Instr.sliceAt, Instr.slice, Sem.run_bind, run_underlying hu, Result.andThen, q1, hz]
              rw [if_neg hma]
              simp [addr_add]
            · refine .msl _ _ _ _ B (cap - a) z h1 (by omega) h3 ?_
              have : a * sz.getD 1 + (cap - a) * sz.getD 1 = cap * sz.getD 1 := by rw [← Nat.add_mul]; congr 1; omega
              omega
      · cases h
  | _ => simp [evP] at h

end Go.Am

/- The abstract machine's operations are sound: composites, conversions, new memory. -/
import Derived.Test.YtbmcgfdopaaiiaaZAmSound4
import Derived.Laws.Tables
import Derived.Deep.AppendSrc
import Derived.Laws.MakeOwn
import Derived.Laws.BytesString
import Derived.Laws.IdiomStrings
set_option linter.all false
namespace Go.Am

/-! Composites. -/

theorem setRange_length : ∀ (cs vs : List AV) (o : Nat), (setRange vs o cs).length = vs.length
  | [], _, _ => rfl
  | c :: cs, vs, o => by simp only [setRange]; rw [setRange_length cs]; simp

theorem setRange_get : ∀ (cs vs : List AV) (o i : Nat), (setRange vs o cs)[i]? = if o ≤ i ∧ i < o + cs.length ∧ i < vs.length then cs[i - o]? else vs[i]?
  | [], vs, o, i => by
    have : ¬ (o ≤ i ∧ i < o + ([] : List AV).length ∧ i < vs.length) := by simp; omega
    rw [if_neg this]; rfl
  | c :: cs, vs, o, i => by
    simp only [setRange]
    rw [setRange_get cs (vs.set o c) (o + 1) i, List.getElem?_set]
    simp only [List.length_set, List.length_cons]
    by_cases h1 : o + 1 ≤ i ∧ i < o + 1 + cs.length ∧ i < vs.length
    · rw [if_pos h1, if_pos (by omega), show i - o = (i - (o + 1)) + 1 by omega, List.getElem?_cons_succ]
    · rw [if_neg h1]
      by_cases h2 : o = i
      · subst h2
        by_cases h3 : o < vs.length
        · rw [if_pos rfl, if_pos h3, if_pos (by omega)]; simp
        · rw [if_pos rfl, if_neg h3, if_neg (by omega)]; simp [List.getElem?_eq_none (Nat.le_of_not_lt h3)]
      · rw [if_neg h2, if_neg (by omega)]

/-- The model's own fold, cell by cell. -/
theorem fold_get (off : Nat) : ∀ (us : List Value) (k : Nat) (cs : Array Value) (i : Nat), ((us.zipIdx k).foldl (fun cs (c, j) => cs.setIfInBounds (off + j) c) cs)[i]? =
    if off + k ≤ i ∧ i < off + k + us.length ∧ i < cs.size then us[i - (off + k)]? else cs[i]?
  | [], k, cs, i => by
    have : ¬ (off + k ≤ i ∧ i < off + k + ([] : List Value).length ∧ i < cs.size) := by simp; omega
    rw [if_neg this]; rfl
  | u :: us, k, cs, i => by
    simp only [List.zipIdx_cons, List.foldl_cons]
    rw [fold_get off us (k + 1) _ i, Array.getElem?_setIfInBounds]
    simp only [Array.size_setIfInBounds, List.length_cons]
    by_cases h1 : off + (k + 1) ≤ i ∧ i < off + (k + 1) + us.length ∧ i < cs.size
    · rw [if_pos h1, if_pos (by omega), show i - (off + k) = (i - (off + (k + 1))) + 1 by omega, List.getElem?_cons_succ]
    · rw [if_neg h1]
      by_cases h2 : off + k = i
      · rw [if_pos h2]
        by_cases h3 : i < cs.size
        · rw [if_pos (by omega), if_pos (by omega), show i - (off + k) = 0 by omega]; simp
        · rw [if_neg (by omega), if_neg (by omega)]; simp [Array.getElem?_eq_none (Nat.le_of_not_lt h3)]
      · rw [if_neg h2, if_neg (by omega)]

theorem fold_size (off : Nat) : ∀ (us : List Value) (k : Nat) (cs : Array Value), ((us.zipIdx k).foldl (fun cs (c, j) => cs.setIfInBounds (off + j) c) cs).size = cs.size
  | [], _, _ => rfl
  | u :: us, k, cs => by simp only [List.zipIdx_cons, List.foldl_cons]; rw [fold_size off us]; simp

def CRel (G : Gh) (w : World) (cs : List AV) (us : Array Value) : Prop :=
  cs.length = us.size ∧ ∀ (i : Nat) (c : AV) (u : Value), cs[i]? = some c → us[i]? = some u → VRel G w c u ∧ u.oneCell' = true

theorem CRel.agg {G : Gh} {w : World} {cs : List AV} {us : Array Value} (h : CRel G w cs us) : VRel G w (.agg cs) (.agg us) :=
  .agg _ _ h.1 (fun i v hv => by
    have hl := (Array.getElem?_eq_some_iff.1 hv).1
    have hl' : i < cs.length := by rw [h.1]; exact hl
    exact (h.2 i cs[i] v (by simp [hl']) hv).2) (fun i c v hc hv => (h.2 i c v hc hv).1)

theorem fillA_sound {G : Gh} {w : World} (place : Nat → Option (Nat × Nat)) : ∀ (parts : List (Nat × Value)) (ps : List (Nat × Nat)) (vs : List AV) (cs : List AV) (us : Array Value) (r : List AV), CRel G w cs us → fillA cs ps vs = some r →
    parts.length = ps.length → (∀ (i : Nat) (p : Nat × Value) (q : Nat × Nat), parts[i]? = some p → ps[i]? = some q → place p.1 = some q) → ListRel G w vs (parts.map (·.2)) →
    ∃ ru, Instr.fill place us parts = some ru ∧ CRel G w r ru
  | [], ps, vs, cs, us, r, hc, h, hl, hp, hr => by
    have hps : ps = [] := by simpa using hl.symm
    have hvs : vs = [] := hr.nil_inv
    subst hps; subst hvs
    simp [fillA] at h
    subst h
    exact ⟨us, rfl, hc⟩
  | (i, y) :: parts, ps, vs, cs, us, r, hc, h, hl, hp, hr => by
    cases ps with
    | nil => simp at hl
    | cons q ps =>
      obtain ⟨off, size⟩ := q
      obtain ⟨v, vs', rfl, hv, hr'⟩ := hr.cons_inv
      have hv : VRel G w v y := hv
      simp only [fillA] at h
      split at h
      · cases h
      · rename_i hcond
        simp only [Bool.or_eq_true, bne_iff_ne, ne_eq, decide_eq_true_eq, not_or, Decidable.not_not] at hcond
        obtain ⟨⟨⟨ha, ht⟩, hs⟩, ho⟩ := hcond
        have hne : v ≠ .any := fun e => by subst e; simp [isAny] at ha
        obtain ⟨k1, k2⟩ := hv.cells hne (by simpa using ht)
        have hpl : place i = some (off, size) := hp 0 (i, y) (off, size) rfl rfl
        have hnew : CRel G w (setRange cs off v.cells) ((y.cells.toList.zipIdx).foldl (fun cs (c, j) => cs.setIfInBounds (off + j) c) us) := by
          refine ⟨by rw [setRange_length, fold_size]; exact hc.1, fun j c u hj hu => ?_⟩
          rw [setRange_get] at hj
          rw [fold_get] at hu
          have e1 : y.cells.toList.length = v.cells.length := by simp [k1]
          rw [e1, ← hc.1] at hu
          simp only [Nat.add_zero] at hu
          split at hj
          · rename_i hin
            rw [if_pos hin] at hu
            exact k2 _ c u hj (by simpa using hu)
          · rename_i hout
            rw [if_neg hout] at hu
            exact hc.2 j c u hj hu
        obtain ⟨ru, q1, q2⟩ := fillA_sound place parts ps vs' _ _ r hnew h (by simpa using hl) (fun j p q hp' hq' => hp (j + 1) p q (by simpa using hp') (by simpa using hq')) hr'
        refine ⟨ru, ?_, q2⟩
        rw [← q1]
        simp only [Instr.fill, hpl]
        rw [if_neg]
        · congr 1
          rw [← Array.foldl_toList, Array.toList_zipIdx]
        · simp only [Bool.or_eq_true, decide_eq_true_eq, ne_eq, not_or, Decidable.not_not]
          have := hc.1
          omega


theorem constA1_sound {G : Gh} {w : World} {x : Value} {v : AV} (h : constA1 x = some v) : VRel G w v x ∧ x.oneCell' = true ∧ isTup v = false := by
  unfold constA1 at h
  split at h <;> first | (cases h; done) | skip
  all_goals
    injection h with h
    subst h
    refine ⟨by first | exact .slnil _ trivial | constructor, rfl, rfl⟩

theorem mapM_constA1 {G : Gh} {w : World} : ∀ (xs : List Value) (vs : List AV), xs.mapM constA1 = some vs → vs.length = xs.length ∧ ∀ (i : Nat) (c : AV) (u : Value), vs[i]? = some c → xs[i]? = some u → VRel G w c u ∧ u.oneCell' = true
  | [], vs, h => by simp at h; subst h; exact ⟨rfl, by simp⟩
  | x :: xs, vs, h => by
    simp only [List.mapM_cons, Option.bind_eq_bind] at h
    cases h1 : constA1 x with
    | none => simp [h1] at h
    | some v =>
      cases h2 : xs.mapM constA1 with
      | none => simp [h1, h2] at h
      | some vs' =>
        simp [h1, h2] at h
        subst h
        obtain ⟨q1, q2⟩ := mapM_constA1 (G := G) (w := w) xs vs' h2
        obtain ⟨p1, p2, _⟩ := constA1_sound (G := G) (w := w) h1
        refine ⟨by simp [q1], fun i c u hc hu => ?_⟩
        cases i with
        | zero => simp at hc hu; subst hc; subst hu; exact ⟨p1, p2⟩
        | succ i => simp at hc hu; exact q2 i c u hc hu

theorem constA_sound {G : Gh} {w : World} {x : Value} {v : AV} (h : constA x = some v) : VRel G w v x ∧ isTup v = false ∧ v ≠ .any := by
  unfold constA at h
  split at h
  · rename_i cs
    cases hm : cs.toList.mapM constA1 with
    | none => simp [hm] at h
    | some vs =>
      simp [hm] at h
      subst h
      obtain ⟨q1, q2⟩ := mapM_constA1 (G := G) (w := w) _ _ hm
      exact ⟨CRel.agg ⟨by simpa using q1, fun i c u hc hu => q2 i c u hc (by simpa using hu)⟩, rfl, nofun⟩
  · obtain ⟨p1, p2, p3⟩ := constA1_sound (G := G) (w := w) h
    exact ⟨p1, p3, fun e => by subst e; unfold constA1 at h; split at h <;> cases h⟩

theorem zeroA_sound {P : Program} {G : Gh} {w : World} {t : TypeId} {z : AV} (h : zeroA P t = some z) : ∃ i zv, P.info? t = some i ∧ i.zero = some zv ∧ VRel G w z zv ∧ isTup z = false ∧ z ≠ .any := by
  unfold zeroA at h
  cases hi : P.info? t with
  | none => simp [hi] at h
  | some i =>
    cases hz : i.zero with
    | none => simp [hi, hz] at h
    | some zv =>
      simp [hi, hz] at h
      obtain ⟨q1, q2, q3⟩ := constA_sound (G := G) (w := w) h
      exact ⟨i, zv, rfl, hz, q1, q2, q3⟩

theorem szOf_size {P : Program} {t : TypeId} {sz : Option Nat} (h : szOf P t = some sz) : ∃ i, P.info? t = some i ∧ i.size = sz.getD 1 := by
  unfold szOf at h
  split at h
  · split at h
    · cases h
    · injection h with h; subst h; exact ⟨_, by assumption, rfl⟩
  · split at h
    · cases h
    · injection h with h; subst h; exact ⟨_, by assumption, rfl⟩
  · split at h
    · injection h with h; subst h; exact ⟨_, by assumption, by assumption⟩
    · cases h
  · cases h

theorem mapM_get {α β : Type} {f : α → Option β} : ∀ {xs : List α} {ys : List β}, xs.mapM f = some ys → ys.length = xs.length ∧ ∀ (i : Nat) (x : α) (y : β), xs[i]? = some x → ys[i]? = some y → f x = some y
  | [], ys, h => by simp at h; subst h; exact ⟨rfl, by simp⟩
  | x :: xs, ys, h => by
    simp only [List.mapM_cons, Option.bind_eq_bind] at h
    cases h1 : f x with
    | none => simp [h1] at h
    | some v =>
      cases h2 : xs.mapM f with
      | none => simp [h1, h2] at h
      | some vs' =>
        simp [h1, h2] at h
        subst h
        obtain ⟨q1, q2⟩ := mapM_get h2
        refine ⟨by simp [q1], fun i c u hc hu => ?_⟩
        cases i with
        | zero => simp at hc hu; subst hc; subst hu; exact h1
        | succ i => simp at hc hu; exact q2 i c u hc hu

theorem mapM_total {α β : Type} {f : α → Option β} : ∀ (xs : List α), (∀ x ∈ xs, (f x).isSome = true) → ∃ ys, xs.mapM f = some ys
  | [], _ => ⟨[], rfl⟩
  | x :: xs, h => by
    obtain ⟨y, hy⟩ := Option.isSome_iff_exists.1 (h x (by simp))
    obtain ⟨ys, hys⟩ := mapM_total xs (fun x hx => h x (by simp [hx]))
    exact ⟨y :: ys, by simp [List.mapM_cons, hy, hys]⟩

/-- A struct's value out of its parts. -/
theorem build_struct_sound {P : Program} {G : Gh} {w : World} {t : TypeId} {fs : Array Field} {z : List AV} {parts : Array (Nat × Value)} {ps : List (Nat × Nat)} {vs : List AV} {v : AV} (hu : P.underlying t = some (.struct fs)) (hz : zeroA P t = some (.agg z))
    (hall : fs.toList.all (fun f => (P.info? f.type).isSome) = true) (hps : parts.toList.mapM (fun p => (fs[p.1]?).bind fun f => (szOf P f.type).map fun s => (f.offset, s.getD 1)) = some ps)
    (h : evP (.build z ps) vs = some v) (hr : ListRel G w vs (parts.toList.map (·.2))) : ∃ u, (Instr.build t parts).run P w = .ok u w ∧ VRel G w v u := by
  obtain ⟨it, zv, hi, hzv, q1, _, _⟩ := zeroA_sound (G := G) (w := w) hz
  simp only [evP] at h
  cases hf : fillA z ps vs with
  | none => simp [hf] at h
  | some r =>
    simp [hf] at h
    subst h
    obtain ⟨m1, m2⟩ := mapM_get hps
    obtain ⟨places, hpl⟩ := mapM_total (f := fun (f : Field) => (P.info? f.type).map fun i => (f.offset, i.size)) fs.toList (fun f hf => by
      simp only [List.all_eq_true] at hall
      have := hall f hf
      obtain ⟨i, hi⟩ := Option.isSome_iff_exists.1 this
      simp [hi])
    obtain ⟨p1, p2⟩ := mapM_get hpl
    cases q1 with
    | agg _ zs a1 a2 a3 =>
      obtain ⟨ru, f1, f2⟩ := fillA_sound (G := G) (w := w) (fun x => places[x]?) parts.toList ps vs z zs r ⟨a1, fun i c u hc hu => ⟨a3 i c u hc hu, a2 i u hu⟩⟩ hf m1.symm (fun i p q hp hq => by
        have := m2 i p q hp hq
        cases hfi : fs[p.1]? with
        | none => simp [hfi] at this
        | some f =>
          cases hsz : szOf P f.type with
          | none => simp [hfi, hsz] at this
          | some s =>
            simp [hfi, hsz] at this
            subst this
            obtain ⟨i', hi', hs'⟩ := szOf_size hsz
            have hlt : p.1 < places.length := by rw [p1]; simpa using (Array.getElem?_eq_some_iff.1 hfi).1
            have := p2 p.1 f places[p.1] (by simpa using hfi) (by simp [hlt])
            simp [hi', hs'] at this
            simp [hlt, this]) hr
      refine ⟨.agg ru, run_build w t parts ru ?_, f2.agg⟩
      have hpl' : fs.toList.mapM (fun f => (P.info? f.type).map fun i => (f.offset, i.size)) = some places := hpl
      simp only [Program.built, hi, hu, hzv, hpl', Value.cells]
      simpa using f1

theorem build_array_sound {P : Program} {G : Gh} {w : World} {t e : TypeId} {n : Nat} {s : Option Nat} {z : List AV} {parts : Array (Nat × Value)} {vs : List AV} {v : AV} (hu : P.underlying t = some (.array n e)) (hz : zeroA P t = some (.agg z)) (hs : szOf P e = some s)
    (h : evP (.build z (parts.toList.map fun p => (p.1 * s.getD 1, s.getD 1))) vs = some v) (hr : ListRel G w vs (parts.toList.map (·.2))) : ∃ u, (Instr.build t parts).run P w = .ok u w ∧ VRel G w v u := by
  obtain ⟨it, zv, hi, hzv, q1, _, _⟩ := zeroA_sound (G := G) (w := w) hz
  obtain ⟨ie, hie, hse⟩ := szOf_size hs
  simp only [evP] at h
  cases hf : fillA z (parts.toList.map fun p => (p.1 * s.getD 1, s.getD 1)) vs with
  | none => simp [hf] at h
  | some r =>
    simp [hf] at h
    subst h
    cases q1 with
    | agg _ zs a1 a2 a3 =>
      obtain ⟨ru, f1, f2⟩ := fillA_sound (G := G) (w := w) (fun i => some (i * ie.size, ie.size)) parts.toList _ vs z zs r ⟨a1, fun i c u hc hu => ⟨a3 i c u hc hu, a2 i u hu⟩⟩ hf (by simp) (fun i p q hp hq => by
        rw [List.getElem?_map, hp] at hq
        simp at hq
        rw [hse, hq]) hr
      refine ⟨.agg ru, run_build w t parts ru ?_, f2.agg⟩
      simp only [Program.built, hi, hu, hzv, hie, Value.cells]
      exact f1


/-! New memory that never turns again. -/

theorem newImm' {G : Gh} {w : World} {st : St} (hI : Inv G w st) {us : Array Value} {e : TypeId} {fr : Nat × Nat} {es : List AV} {sz : Nat} {tk : Tok} (cap : Nat) (h1 : ∀ x ∈ es, x.cells.length = sz) (hcap : es.length ≤ cap)
    (hlen : (flat es).length ≤ us.size) (hc : ∀ (i : Nat) (c : AV) (u : Value), (flat es)[i]? = some c → us[i]? = some u → VRel G w c u ∧ u.oneCell' = true) (htk : tk = .any ∨ (tk = .clip ∧ cap = es.length)) :
    Inv (G.addImm fun b o => b = w.heap.size ∧ o < (flat es).length) (w.alloc (.cells us e fr)) st ∧ Ext G w (G.addImm fun b o => b = w.heap.size ∧ o < (flat es).length) (w.alloc (.cells us e fr)) st.heap.length st.toks.length ∧
      VRel (G.addImm fun b o => b = w.heap.size ∧ o < (flat es).length) (w.alloc (.cells us e fr)) (.sl tk es) (.slice (some ⟨w.heap.size, 0, none⟩) es.length cap) := by
  obtain ⟨i1, e1⟩ := hI.allocGarbage (.cells us e fr)
  have hcell : ∀ i, (hi : i < us.size) → (w.alloc (.cells us e fr)).cell? ⟨w.heap.size, i, none⟩ = some us[i] := fun i hi => by
    simp only [World.cell?, alloc_new]; simp [hi]
  have e2 := Ext.addImm G (w.alloc (.cells us e fr)) (fun b o => b = w.heap.size ∧ o < (flat es).length) st.heap.length st.toks.length
  have i2 := i1.addImm (fun b o => b = w.heap.size ∧ o < (flat es).length) (fun b o ⟨hb, ho⟩ => by subst hb; exact ⟨us[o]'(by omega), hcell o (by omega)⟩)
    (fun b o ⟨hb, _⟩ l hl => by subst hb; have := (hI.img l _ hl).2; omega) (fun b o ⟨hb, _⟩ k i hk e => by
      obtain ⟨_, _, ⟨z, a3, _⟩, _⟩ := hI.tdom k i hk
      have := bsize_lt a3
      omega)
  refine ⟨i2, e1.trans e2 (Nat.le_refl _) (Nat.le_refl _), ?_⟩
  have hv : ∀ v x, VRel G w v x → VRel (G.addImm (fun b o => b = w.heap.size ∧ o < (flat es).length)) (w.alloc (.cells us e fr)) v x := fun v x hv => hv.inv hI (e1.trans e2 (Nat.le_refl _) (Nat.le_refl _))
  refine .sl tk es _ 0 cap sz (fun j => us.getD j undef) h1 hcap (fun j c hj => ?_) (fun j c hj => ?_) ?_
  · have hl := (List.getElem?_eq_some_iff.1 hj).1
    have hu : j < us.size := by omega
    refine ⟨.inr ⟨rfl, by omega⟩, ?_, ?_⟩
    · rw [Nat.zero_add, hcell j hu]; simp [hu]
    · have := (hc j c us[j] hj (by simp [hu])).2
      simpa [hu] using this
  · have hl := (List.getElem?_eq_some_iff.1 hj).1
    have hu : j < us.size := by omega
    have := hv _ _ (hc j c us[j] hj (by simp [hu])).1
    simpa [hu] using this
  · rcases htk with rfl | ⟨rfl, rfl⟩
    · trivial
    · rfl

theorem newImm {G : Gh} {w : World} {st : St} (hI : Inv G w st) {us : Array Value} {e : TypeId} {fr : Nat × Nat} {es : List AV} {sz : Nat} {tk : Tok} (cap : Nat) (h1 : ∀ x ∈ es, x.cells.length = sz) (hcap : es.length ≤ cap)
    (hlen : (flat es).length ≤ us.size) (hc : ∀ (i : Nat) (c : AV) (u : Value), (flat es)[i]? = some c → us[i]? = some u → VRel G w c u ∧ u.oneCell' = true) (htk : tk = .any ∨ (tk = .clip ∧ cap = es.length)) :
    ∃ G', Inv G' (w.alloc (.cells us e fr)) st ∧ Ext G w G' (w.alloc (.cells us e fr)) st.heap.length st.toks.length ∧ VRel G' (w.alloc (.cells us e fr)) (.sl tk es) (.slice (some ⟨w.heap.size, 0, none⟩) es.length cap) :=
  ⟨_, newImm' hI cap h1 hcap hlen hc htk⟩

/-- The cells of a list of values. -/
theorem flat_rel {G : Gh} {w : World} {sz : Nat} : ∀ {vs : List AV} {ys : List Value}, ListRel G w vs ys → (∀ v ∈ vs, v ≠ .any ∧ isTup v = false ∧ v.cells.length = sz) →
    (flat vs).length = (ys.flatMap (fun y => y.cells.toList)).length ∧ ∀ (i : Nat) (c : AV) (u : Value), (flat vs)[i]? = some c → (ys.flatMap (fun y => y.cells.toList))[i]? = some u → VRel G w c u ∧ u.oneCell' = true
  | [], ys, h, _ => by
    have : ys = [] := by have := h.1; simpa using this.symm
    subst this
    exact ⟨rfl, by simp [flat]⟩
  | v :: vs, ys, h, hv => by
    cases ys with
    | nil => have := h.1; simp at this
    | cons y ys =>
      obtain ⟨x, xs, e, hx, hr⟩ := h.cons_inv
      injection e with e1 e2
      subst e1; subst e2
      obtain ⟨n1, n2, n3⟩ := hv v (by simp)
      obtain ⟨k1, k2⟩ := hx.cells_list n1 n2
      obtain ⟨q1, q2⟩ := flat_rel hr (fun v hv' => hv v (by simp [hv']))
      simp only [flat, List.flatMap_cons, List.length_append] at q1 q2 ⊢
      refine ⟨by omega, fun i c u hc hu => ?_⟩
      rcases Nat.lt_or_ge i v.cells.length with hlt | hge
      · rw [List.getElem?_append_left hlt] at hc
        rw [List.getElem?_append_left (by omega)] at hu
        exact k2 i c u hc hu
      · rw [List.getElem?_append_right hge] at hc
        rw [List.getElem?_append_right (by omega), ← k1] at hu
        exact q2 _ c u hc hu

/-- 'buildSlice' over parts in their order. -/
theorem fill_inorder {sz : Nat} : ∀ (ys : List Value) (k : Nat) (cells : Array Value), (∀ y ∈ ys, y.cells.size = sz) → (k + ys.length) * sz ≤ cells.size →
    ∃ r, Instr.fill (fun i => some (i * sz, sz)) cells ((List.range' k ys.length).zip ys) = some r ∧ r.size = cells.size ∧
      ∀ i, r[i]? = if k * sz ≤ i ∧ i < (k + ys.length) * sz then (ys.flatMap (fun y => y.cells.toList))[i - k * sz]? else cells[i]?
  | [], k, cells, _, _ => ⟨cells, rfl, rfl, fun i => by rw [if_neg (by rintro ⟨a, b⟩; simp at b; omega)]⟩
  | y :: ys, k, cells, hy, hk => by
    have hys := hy y (by simp)
    have hk2 : (k + 1 + ys.length) * sz ≤ cells.size := by simp at hk; rwa [show k + 1 + ys.length = k + (ys.length + 1) by omega]
    have hks : (k + 1) * sz = k * sz + sz := Nat.succ_mul k sz
    have hle : (k + 1) * sz ≤ (k + 1 + ys.length) * sz := Nat.mul_le_mul_right _ (by omega)
    obtain ⟨r, f1, f2, f3⟩ := fill_inorder ys (k + 1) ((y.cells.toList.zipIdx).foldl (fun cs (c, j) => cs.setIfInBounds (k * sz + j) c) cells) (fun y hy' => hy y (by simp [hy'])) (by rw [fold_size]; exact hk2)
    refine ⟨r, ?_, by rw [f2, fold_size], fun i => ?_⟩
    · rw [← f1]
      simp only [List.length_cons, List.range'_succ, List.zip_cons_cons, Instr.fill]
      rw [if_neg]
      · congr 1
        rw [← Array.foldl_toList, Array.toList_zipIdx]
      · simp only [Bool.or_eq_true, decide_eq_true_eq, ne_eq, not_or, Decidable.not_not]
        omega
    · rw [f3 i, fold_get]
      have hyl : y.cells.toList.length = sz := by simp [hys]
      simp only [List.flatMap_cons, Nat.add_zero, hyl, List.length_cons]
      rw [show k + (ys.length + 1) = k + 1 + ys.length by omega]
      by_cases h1 : (k + 1) * sz ≤ i ∧ i < (k + 1 + ys.length) * sz
      · rw [if_pos h1, if_pos (by omega), List.getElem?_append_right (by omega), hyl, show i - k * sz - sz = i - (k + 1) * sz by omega]
      · rw [if_neg h1]
        by_cases h2 : k * sz ≤ i ∧ i < k * sz + sz ∧ i < cells.size
        · rw [if_pos h2, if_pos (by omega), List.getElem?_append_left (by omega)]
        · rw [if_neg h2, if_neg (by omega)]

end Go.Am

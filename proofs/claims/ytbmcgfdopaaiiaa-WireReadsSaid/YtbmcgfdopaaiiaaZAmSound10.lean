/- The abstract machine's operations are sound: append, whole. -/
import Derived.Test.YtbmcgfdopaaiiaaZAmSound9
set_option linter.all false
namespace Go.Am

/-- An append to a slice whose spare room is nobody else's. -/
theorem append_own_sound {P : Program} {G : Gh} {w : World} {st : St} {t tx ty e : TypeId} {sz : Option Nat} {es new : List AV} {k : Nat} {y1 y2 : Value} {news : List Value} (hI : Inv G w st) (hu : P.underlying t = some (.slice e)) (hs : szOf P e = some sz) (hb : smallBytes P e = true) (hz : (P.info? e).any (fun i => i.zero.any fun z => z.cells.size == sz.getD 1) = true)
    (h1 : VRel G w (.sl (.own k) es) y1) (n1 : ∀ e ∈ new, e.cells.length = sz.getD 1) (hS : Src P (sz.getD 1) tx y2 new.length news w) (n2 : ∀ (i : Nat) (c : AV) (u : Value), (flat new)[i]? = some c → news[i]? = some u → VRel G w c u ∧ u.oneCell' = true)
    (hall : allSz (sz.getD 1) es = true) (hlim : es.length + new.length ≤ limit) (htok : st.toks[k]? = some (es.length, sz.getD 1)) :
    SOk P G w st (Builtin.append_ #[t, tx] ty #[y1, y2]) (.sl (.own k) (es ++ normL new)) { st with toks := st.toks.set k (es.length + new.length, sz.getD 1) } := by
  obtain ⟨i, z, hi, hzz, hsz, hzc, hb1, hb2⟩ := elem_facts hs hb hz
  have hold : srcEs sz st (.sl (.own k) es) = some es := by simp [srcEs, hall]
  obtain ⟨o1, olds, hO, o2⟩ := srcOf (P := P) (tx := t) hI h1 hold (.inl ⟨e, hu⟩)
  obtain ⟨a, cap, rfl, hle⟩ := h1.sl_len
  have hnl : news.length = new.length * sz.getD 1 := hS.newsLen
  rw [← hsz] at hS hO
  have hol : olds.length = (flat es).length := by rw [hO.newsLen, flat_length o1, hsz]
  have hcells := cells_norm_len n1
  have hall' : ∀ c ∈ es ++ normL new, c.cells.length = sz.getD 1 := fun c hc => (List.mem_append.1 hc).elim (o1 c) (hcells c)
  have hlen' : (es ++ normL new).length = es.length + new.length := by rw [List.length_append, normL_length]
  have hn2 : ∀ (i : Nat) (c : AV) (u : Value), (flat (normL new))[i]? = some c → news[i]? = some u → VRel G w c u ∧ u.oneCell' = true := fun i c u hc hu => by
    rw [flat_norm, normL_eq, List.getElem?_map] at hc
    cases hx : (flat new)[i]? with
    | none => simp [hx] at hc
    | some c' => simp [hx] at hc; subst hc; obtain ⟨q1, q2⟩ := n2 i c' u hx hu; exact ⟨q1.norm, q2⟩
  by_cases h0 : new.length = 0
  · have hnew : new = [] := by simpa using h0
    subst hnew
    have hnews : news = [] := by simpa using hnl
    subst hnews
    have hrun := run_append_nothing (P := P) w t tx ty e i hu hi a es.length cap hle y2 hS
    have hset : st.toks.set k (es.length + ([] : List AV).length, sz.getD 1) = st.toks := by
      apply List.ext_getElem?
      intro j
      by_cases ej : k = j
      · subst ej; rw [List.getElem?_set, if_pos rfl, if_pos (List.getElem?_eq_some_iff.1 htok).1, htok]; rfl
      · rw [List.getElem?_set, if_neg ej]
    simp only [normL, List.append_nil]
    rw [hset]
    exact SOk.same hI hrun h1
  · rcases Nat.lt_or_ge cap (es.length + new.length) with hg | hroom
    · have hrun := run_append_grow_src (P := P) w t tx ty e i z hu hi hzz a es.length cap olds hO.cellsD y2 new.length news hS hg (by have : es.length + new.length ≤ 2147483648 := hlim; omega) (limit_fits hg hlim hb2)
      have hI' := hI.drawn (w.drawn + 1)
      have hE' := Ext.drawn G w (w.drawn + 1) st.heap.length st.toks.length
      have hgc : es.length + new.length ≤ grownCap w (es.length + new.length) cap e := by unfold grownCap; simp [Question.cut]
      obtain ⟨G', i1, e1, v1⟩ := ownNew hI' (us := (olds ++ news).toArray ++ Builtin.zeroCells z.cells (grownCap w (es.length + new.length) cap e - (es.length + new.length))) (e := e) (es := es ++ normL new) (sz := sz.getD 1) (k := k) (n0 := es.length)
        (grownCap w (es.length + new.length) cap e) hall' (by rw [hlen']; exact hgc) (by
          simp only [Array.size_append, List.size_toArray, List.length_append, size_zeroCells, hzc, hnl, hol, flat_length o1]
          rw [← Nat.add_mul, ← Nat.add_mul, Nat.add_sub_cancel' hgc]) (fun j c u hc hu => by
          have hlt : j < (olds ++ news).length := by
            have := (List.getElem?_eq_some_iff.1 hc).1
            rw [flat_append, List.length_append, flat_length hcells, normL_length, ← hnl, ← hol] at this
            simpa using this
          rw [Array.getElem?_append_left (by simpa using hlt)] at hu
          have := append_rel (G := G) (w := w) hol o2 n2 j c u hc (by simpa using hu)
          exact ⟨this.1.inv hI hE', this.2⟩) htok (by rw [hlen']; omega)
      rw [hlen'] at i1 v1
      exact ⟨_, _, G', hrun, i1, hE'.trans e1 (Nat.le_refl _) (Nat.le_refl _), v1⟩
    · -- there is room: the spare cells are the token's
      have hspare : ∃ b, a = some ⟨b, 0, none⟩ ∧ G.tau k = some ⟨b, es.length * sz.getD 1⟩ ∧ ∃ z, bsize w b = some z ∧ cap * sz.getD 1 ≤ z := by
        cases h1 with
        | slnil => simp only [List.length_nil] at hroom; omega
        | slz => simp only [List.length_nil] at hroom; omega
        | sl _ _ b o _ sz' cv q1 q2 q3 q4 q5 =>
          obtain ⟨n, s, r1, r2, r3⟩ := q5
          rw [hI.tl, htok] at r1
          injection r1 with r1
          injection r1 with r1 r1'
          subst r1; subst r1'
          rcases r3 rfl with r3 | ⟨r3, r4, r5, z, r6, r7⟩
          · omega
          · subst r3; subst r4
            exact ⟨b, rfl, r5, z, r6, r7⟩
      obtain ⟨b, rfl, htau, zz, hbz, hcz⟩ := hspare
      have hln : (normL new).length = new.length := normL_length new
      obtain ⟨G', i1, e1, v1, c1, f1⟩ := ownSpare hI h1 o1 hcells (by rw [hln]; exact hroom) (by rw [hln]; exact hnl) hn2 htok (by rw [hln]; omega) htau hbz hcz
      rw [hln] at i1 v1
      have hrun := run_append_room_src (P := P) w t tx ty e i hu hi b 0 es.length cap y2 new.length news hS hroom (by simpa [hsz] using c1) (by simpa [hsz] using f1)
      simp only [Nat.zero_add, hsz] at hrun
      exact ⟨_, _, G', hrun, i1, e1, v1⟩

/-- A block that was made, and that is appended to: its cells turn no more, its spare room is a token's. -/
theorem mslOwn {G : Gh} {w : World} {st : St} (hI : Inv G w st) {l len : Nat} {sz : Option Nat} {vs : List AV} {y : Value} (hpos : 0 < sz.getD 1) (h1 : VRel G w (.msl l 0 len sz) y) (hl : st.heap[l]? = some (.cells false vs)) (hlen : vs.length = len * sz.getD 1) :
    ∃ G', Inv G' w { heap := st.heap.set l (.cells true vs), toks := st.toks ++ [(len, sz.getD 1)] } ∧ Ext G w G' w st.heap.length st.toks.length ∧ VRel G' w (.sl (.own st.toks.length) (chunk sz len vs)) y ∧
      (∀ e ∈ chunk sz len vs, e.cells.length = sz.getD 1) := by
  cases h1 with
  | msl _ _ _ _ B cap z m1 m2 m3 m4 =>
    obtain ⟨B', p1, p2⟩ := hI.blk l _ hl
    rw [m1] at p1
    injection p1 with p1
    subst p1
    have hca := p2.cellsAt
    obtain ⟨c, elem, fr, p2, p3, p4, p5, p6⟩ := p2
    have hbz : bsize w B = some c.size := by simp only [bsize, p2]
    obtain ⟨k1, k2⟩ := chunk_flat (sz := sz) len vs (by omega) (fun _ x hx => by
      obtain ⟨i, hi, rfl⟩ := List.mem_iff_getElem.1 hx
      obtain ⟨u, _, v1, v2⟩ := hca i _ (List.getElem?_eq_getElem hi)
      exact scalar_cells v1 v2)
    have hfl : flat (chunk sz len vs) = vs := by rw [k2, ← hlen, List.take_length]
    obtain ⟨i1, e1⟩ := hI.freezeBlk hl m1
    have hlt := (List.getElem?_eq_some_iff.1 hl).1
    have hn : (G.addImm fun b o => b = B ∧ o < vs.length).tl st.toks.length = none := by show G.tl _ = none; rw [hI.tl]; simp
    have e2 : Ext (G.addImm fun b o => b = B ∧ o < vs.length) w ((G.addImm fun b o => b = B ∧ o < vs.length).setTok st.toks.length (len, sz.getD 1) (some ⟨B, len * sz.getD 1⟩)) w st.heap.length st.toks.length :=
      Ext.setTok _ w (p0 := (len, sz.getD 1)) _ _ _ (.inr (Nat.le_refl _)) (fun e => by rw [hn] at e; cases e)
    have i2 := i1.setTok (k := st.toks.length) (p := (len, sz.getD 1)) (i := some ⟨B, len * sz.getD 1⟩) (toks := st.toks ++ [(len, sz.getD 1)]) (by simpa using e2) (by simp) (fun j => by
        by_cases e : j = st.toks.length
        · subst e; simp
        · rw [if_neg e]
          simp only []
          rcases Nat.lt_or_ge j st.toks.length with hl | hl
          · rw [List.getElem?_append_left hl]
          · rw [List.getElem?_append_right hl, List.getElem?_eq_none (by simp; omega), List.getElem?_eq_none hl]) (fun i' hi' => by
        injection hi' with hi'
        subst hi'
        refine ⟨(hI.img l B m1).1, ⟨c.size, hbz, by simp only []; omega, fun o _ ho => p6 o ho⟩, fun o ho hi => ?_, fun l' hl' => ?_, fun j i2 hj hi2 e => ?_⟩
        · rcases hi with hi | ⟨_, hi⟩
          · exact p5 o hi
          · simp only [] at ho; omega
        · have : l' = l := hI.inj _ _ _ hl' m1
          subst this
          exact ⟨vs, by simp [hlt]⟩
        · obtain ⟨_, _, _, _, a7⟩ := hI.tdom j i2 hi2
          obtain ⟨vs', hvs'⟩ := a7 l (by rw [e]; exact m1)
          rw [hl] at hvs'
          injection hvs' with e3
          injection e3 with e4
          exact absurd e4 (by decide))
    have eAll := e1.trans e2 (Nat.le_refl _) (Nat.le_refl _)
    refine ⟨_, i2, eAll, ?_, k1⟩
    have hvl : (chunk sz len vs).length = len := chunk_length _ _ _
    have := VRel.sl (G := (G.addImm fun b o => b = B ∧ o < vs.length).setTok st.toks.length (len, sz.getD 1) (some ⟨B, len * sz.getD 1⟩)) (w := w) (.own st.toks.length) (chunk sz len vs) B 0 cap (sz.getD 1) (fun j => (w.cell? ⟨B, j, none⟩).getD undef) k1 (by rw [hvl]; exact m2)
      (fun j x hj => by
        rw [hfl] at hj
        obtain ⟨u, u1, u2, u3⟩ := hca j x hj
        rw [Nat.zero_add] at u1 ⊢
        exact ⟨.inr ⟨rfl, (List.getElem?_eq_some_iff.1 hj).1⟩, by simp [u1], by simpa [u1] using u3⟩)
      (fun j x hj => by
        rw [hfl] at hj
        obtain ⟨u, u1, u2, u3⟩ := hca j x hj
        rw [Nat.zero_add] at u1
        simpa [u1] using u2.inv hI eAll)
      ⟨len, sz.getD 1, by simp [Gh.setTok], by rw [hvl]; exact Nat.le_refl _, fun _ => .inr ⟨rfl, rfl, by rw [hvl]; simp [Gh.setTok], z, m3, by simpa using m4⟩⟩
    rw [hvl] at this
    exact this

theorem set_append_last {α : Type} (l : List α) (a b : α) : (l ++ [a]).set l.length b = l ++ [b] := by
  rw [List.set_append_right _ _ (Nat.le_refl _)]
  simp

/-- A slice whose capacity is its length takes a token. -/
theorem clipOwn {G : Gh} {w : World} {st : St} (hI : Inv G w st) {es : List AV} {y : Value} (sz : Nat) (h : VRel G w (.sl .clip es) y) :
    ∃ G', Inv G' w { st with toks := st.toks ++ [(es.length, sz)] } ∧ Ext G w G' w st.heap.length st.toks.length ∧ VRel G' w (.sl (.own st.toks.length) es) y := by
  obtain ⟨i1, e1⟩ := hI.newTok (es.length, sz)
  refine ⟨_, i1, e1, ?_⟩
  have h' := h.inv hI e1
  cases h' with
  | slnil => exact .slnil _ ⟨_, by simp [Gh.setTok]; rfl⟩
  | slz _ ad => exact .slz _ ad ⟨_, by simp [Gh.setTok]; rfl⟩
  | sl _ _ b o cap sz' cv q1 q2 q3 q4 q5 => exact .sl _ es b o cap sz' cv q1 q2 q3 q4 ⟨es.length, sz, by simp [Gh.setTok], Nat.le_refl _, fun _ => .inl q5⟩

theorem append_sound {P : Program} {G : Gh} {w : World} {st st' : St} {t tx ty e : TypeId} {sz : Option Nat} {x1 x2 v : AV} {y1 y2 : Value} (hI : Inv G w st) (hu : P.underlying t = some (.slice e)) (hs : szOf P e = some sz) (hb : smallBytes P e = true) (hz : (P.info? e).any (fun i => i.zero.any fun z => z.cells.size == sz.getD 1) = true)
    (hk : (∃ e', P.underlying tx = some (.slice e')) ∨ P.underlying tx = some .string) (h : evT (.append sz) [x1, x2] st = some (v, st')) (h1 : VRel G w x1 y1) (h2 : VRel G w x2 y2) :
    SOk P G w st (Builtin.append_ #[t, tx] ty #[y1, y2]) v st' := by
  cases x1 with
  | sl tk es =>
    simp only [evT] at h
    cases hsrc : srcEs sz st x2 with
    | none => simp [hsrc] at h
    | some new =>
      rw [hsrc] at h
      simp only [] at h
      split at h
      · rename_i hc
        simp only [Bool.and_eq_true, decide_eq_true_eq] at hc
        cases tk with
        | any => simp at h
        | clip =>
          simp only [] at h
          injection h with h
          injection h with e1 e2
          subst e1; subst e2
          obtain ⟨G', i1, e1, v1⟩ := clipOwn hI (sz.getD 1) h1
          obtain ⟨n1, news, hS, n2⟩ := srcOf (P := P) hI h2 hsrc hk
          obtain ⟨y, w', G2, r1, i2, e2, v2⟩ := append_own_sound (new := new) (news := news) i1 hu hs hb hz v1 n1 hS (fun i c u hc hu => ⟨(n2 i c u hc hu).1.inv hI e1, (n2 i c u hc hu).2⟩)
            hc.1 hc.2 (by simp)
          simp only [set_append_last] at i2
          exact ⟨y, w', G2, r1, i2, e1.trans e2 (Nat.le_refl _) (by simp), v2⟩
        | own k =>
          simp only [] at h
          cases htok : st.toks[k]? with
          | none => simp [htok] at h
          | some p =>
            obtain ⟨n, s⟩ := p
            rw [htok] at h
            simp only [] at h
            split at h
            · rename_i hn
              obtain ⟨rfl, rfl⟩ := hn
              injection h with h
              injection h with e1 e2
              subst e1; subst e2
              obtain ⟨n1, news, hS, n2⟩ := srcOf (P := P) hI h2 hsrc hk
              exact append_own_sound hI hu hs hb hz h1 n1 hS n2 hc.1 hc.2 htok
            · cases h
      · cases h
  | _ => simp [evT] at h

end Go.Am

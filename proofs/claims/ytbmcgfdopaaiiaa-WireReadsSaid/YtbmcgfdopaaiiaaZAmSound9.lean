/- The abstract machine's operations are sound: append. -/
import Derived.Test.YtbmcgfdopaaiiaaZAmSound8
import Derived.Deep.Upon
set_option linter.all false
namespace Go.Am

/-- What the laws on append ask of the element's type. -/
theorem elem_facts {P : Program} {e : TypeId} {sz : Option Nat} (hs : szOf P e = some sz) (hb : smallBytes P e = true) (hz : (P.info? e).any (fun i => i.zero.any fun z => z.cells.size == sz.getD 1) = true) :
    ∃ i z, P.info? e = some i ∧ i.zero = some z ∧ i.size = sz.getD 1 ∧ z.cells.size = sz.getD 1 ∧ 0 < i.bytes ∧ i.bytes ≤ 1024 := by
  obtain ⟨i, hi, hsz⟩ := szOf_size hs
  simp only [hi, Option.any_some] at hz
  cases hzz : i.zero with
  | none => simp [hzz] at hz
  | some z =>
    simp only [hzz, Option.any_some, beq_iff_eq] at hz
    simp only [smallBytes, hi, Bool.and_eq_true, decide_eq_true_eq] at hb
    exact ⟨i, z, hi, hzz, hsz, hz, hb.1, hb.2⟩

theorem srcOf {P : Program} {G : Gh} {w : World} {st : St} {sz : Option Nat} {x : AV} {y : Value} {es : List AV} {tx : TypeId} (hI : Inv G w st) (hx : VRel G w x y) (h : srcEs sz st x = some es) (hk : (∃ e', P.underlying tx = some (.slice e')) ∨ P.underlying tx = some .string) :
    (∀ e ∈ es, e.cells.length = sz.getD 1) ∧ ∃ news : List Value, Src P (sz.getD 1) tx y es.length news w ∧ (∀ (i : Nat) (c : AV) (u : Value), (flat es)[i]? = some c → news[i]? = some u → VRel G w c u ∧ u.oneCell' = true) := by
  obtain ⟨s1, news, s2, s3, s4, s5⟩ := src_sound (P := P) hI hx h
  have ht : news.take (es.length * sz.getD 1) = news := by rw [← s4, List.take_length]
  refine ⟨s1, news, ⟨hk, s2, ?_, ?_, s4, mem_oneCell (by rw [flat_length s1, s4]) s5⟩, s5⟩
  · have := s3 w es.length (Nat.le_refl _) (fun _ => rfl); rwa [ht] at this
  · have := s3 w.drew es.length (Nat.le_refl _) (fun _ => rfl); rwa [ht] at this

theorem flat_append (a b : List AV) : flat (a ++ b) = flat a ++ flat b := by simp [flat]

theorem normL_length (l : List AV) : (normL l).length = l.length := by rw [normL_eq]; simp

/-- Old cells, then new ones (as they are told behind). -/
theorem append_rel {G : Gh} {w : World} {es new : List AV} {olds news : List Value} (hl : olds.length = (flat es).length) (h1 : ∀ (i : Nat) (c : AV) (u : Value), (flat es)[i]? = some c → olds[i]? = some u → VRel G w c u ∧ u.oneCell' = true)
    (h2 : ∀ (i : Nat) (c : AV) (u : Value), (flat new)[i]? = some c → news[i]? = some u → VRel G w c u ∧ u.oneCell' = true) :
    ∀ (i : Nat) (c : AV) (u : Value), (flat (es ++ normL new))[i]? = some c → (olds ++ news)[i]? = some u → VRel G w c u ∧ u.oneCell' = true := by
  intro i c u hc hu
  rw [flat_append, flat_norm] at hc
  rcases Nat.lt_or_ge i (flat es).length with hlt | hge
  · rw [List.getElem?_append_left hlt] at hc
    rw [List.getElem?_append_left (by omega)] at hu
    exact h1 i c u hc hu
  · rw [List.getElem?_append_right hge, normL_eq, List.getElem?_map] at hc
    rw [List.getElem?_append_right (by omega), hl] at hu
    cases hx : (flat new)[i - (flat es).length]? with
    | none => simp [hx] at hc
    | some c' =>
      simp [hx] at hc
      subst hc
      obtain ⟨q1, q2⟩ := h2 _ c' u hx hu
      exact ⟨q1.norm, q2⟩

theorem cells_norm_len {new : List AV} {k : Nat} (h : ∀ e ∈ new, e.cells.length = k) : ∀ e ∈ normL new, e.cells.length = k := by
  intro e he
  rw [normL_eq] at he
  obtain ⟨e', he', rfl⟩ := List.mem_map.1 he
  rw [norm_cells, normL_length]
  exact h e' he'

theorem limit_fits {need old bytes : Nat} (h : old < need) (hn : need ≤ limit) (hb : bytes ≤ 1024) : Builtin.nextslicecap need old * bytes ≤ 281474976710656 := by
  refine growslice_fits h ?_
  have : need * bytes ≤ 2147483648 * 1024 := Nat.mul_le_mul hn hb
  omega

/-- An append that must make a new row. -/
theorem append_clip_sound {P : Program} {G : Gh} {w : World} {st : St} {t tx ty e : TypeId} {sz : Option Nat} {es new : List AV} {x : AV} {y1 y2 : Value} (hI : Inv G w st) (hu : P.underlying t = some (.slice e)) (hs : szOf P e = some sz) (hb : smallBytes P e = true) (hz : (P.info? e).any (fun i => i.zero.any fun z => z.cells.size == sz.getD 1) = true)
    (hk : (∃ e', P.underlying tx = some (.slice e')) ∨ P.underlying tx = some .string) (h1 : VRel G w (.sl .clip es) y1) (h2 : VRel G w x y2) (hsrc : srcEs sz st x = some new) (hall : allSz (sz.getD 1) es = true) (hlim : es.length + new.length ≤ limit) :
    SOk P G w st (Builtin.append_ #[t, tx] ty #[y1, y2]) (.sl .any (es ++ normL new)) st := by
  obtain ⟨i, z, hi, hzz, hsz, hzc, hb1, hb2⟩ := elem_facts hs hb hz
  obtain ⟨n1, news, hS, n2⟩ := srcOf (P := P) hI h2 hsrc hk
  have hold : srcEs sz st (.sl .clip es) = some es := by simp [srcEs, hall]
  obtain ⟨o1, olds, hO, o2⟩ := srcOf (P := P) (tx := t) hI h1 hold (.inl ⟨e, hu⟩)
  obtain ⟨a, cap, rfl, hle⟩ := h1.sl_len
  have hcap : cap = es.length := by
    cases h1 with
    | slnil => rfl
    | slz => rfl
    | sl _ _ _ _ _ _ _ _ _ _ _ ht => exact ht
  rw [← hsz] at hS hO
  by_cases h0 : new.length = 0
  · have hnew : new = [] := by simpa using h0
    subst hnew
    have hnews : news = [] := by have := hS.newsLen; simpa using this
    subst hnews
    have hrun := run_append_nothing (P := P) w t tx ty e i hu hi a es.length cap hle y2 hS
    refine SOk.same hI hrun ?_
    simp only [normL, List.append_nil]
    cases h1 with
    | slnil => exact .slnil _ trivial
    | slz _ a => exact .slz _ a trivial
    | sl _ _ b o cap sz' cv q1 q2 q3 q4 q5 => exact .sl .any es b o cap sz' cv q1 q2 q3 q4 trivial
  · subst hcap
    have hrun := run_append_grow_src (P := P) w t tx ty e i z hu hi hzz a es.length es.length olds hO.cellsD y2 new.length news hS (by omega) (by have : es.length + new.length ≤ 2147483648 := hlim; omega) (limit_fits (by omega) hlim hb2)
    have hI' := hI.drawn (w.drawn + 1)
    have hE' := Ext.drawn G w (w.drawn + 1) st.heap.length st.toks.length
    have hgc : es.length + new.length ≤ grownCap w (es.length + new.length) es.length e := by unfold grownCap; simp [Question.cut]
    have hol : olds.length = (flat es).length := by rw [hO.newsLen, flat_length o1, hsz]
    have hcells := cells_norm_len n1
    have hfl : (flat (es ++ normL new)).length = (olds ++ news).length := by
      rw [flat_append, List.length_append, List.length_append, hol, flat_length hcells, normL_length, hS.newsLen, hsz]
    obtain ⟨G', i1, e1, v1⟩ := newImm hI' (us := (olds ++ news).toArray ++ Builtin.zeroCells z.cells (grownCap w (es.length + new.length) es.length e - (es.length + new.length))) (e := e) (fr := (0, 0)) (es := es ++ normL new) (sz := sz.getD 1) (tk := .any)
      (grownCap w (es.length + new.length) es.length e) (fun c hc => (List.mem_append.1 hc).elim (o1 c) (hcells c)) (by rw [List.length_append, normL_length]; exact hgc) (by rw [hfl]; simp) (fun j c u hc hu => by
        have hlt : j < (olds ++ news).length := by rw [← hfl]; exact (List.getElem?_eq_some_iff.1 hc).1
        rw [Array.getElem?_append_left (by simpa using hlt)] at hu
        have := append_rel (G := G) (w := w) hol o2 n2 j c u hc (by simpa using hu)
        exact ⟨this.1.inv hI hE', this.2⟩) (.inl rfl)
    refine ⟨_, _, G', hrun, i1, hE'.trans e1 (Nat.le_refl _) (Nat.le_refl _), ?_⟩
    rw [List.length_append, normL_length] at v1
    exact v1


theorem VRel.retok {G : Gh} {w : World} {t t' : Tok} {es : List AV} {b o len cap : Nat} (h : VRel G w (.sl t es) (.slice (some ⟨b, o, none⟩) len cap)) (ht : ∀ sz, (∀ e ∈ es, e.cells.length = sz) → TokOk G w t' es.length b o cap sz) :
    VRel G w (.sl t' es) (.slice (some ⟨b, o, none⟩) len cap) := by
  cases h with
  | sl _ _ _ _ _ sz cv h1 h2 h3 h4 h5 => exact .sl t' es b o cap sz cv h1 h2 h3 h4 (ht sz h1)
  | slz =>
    refine .slz t' _ ?_
    have := ht 0 (by simp)
    cases t' with
    | own k => obtain ⟨n, s, h1, _⟩ := this; exact ⟨_, h1⟩
    | _ => trivial

/-- A new row for a slice that has a token. -/
theorem ownNew {G : Gh} {w : World} {st : St} (hI : Inv G w st) {us : Array Value} {e : TypeId} {es : List AV} {sz k n0 : Nat} (cap : Nat) (h1 : ∀ x ∈ es, x.cells.length = sz) (hcap : es.length ≤ cap) (hsize : us.size = cap * sz)
    (hc : ∀ (i : Nat) (c : AV) (u : Value), (flat es)[i]? = some c → us[i]? = some u → VRel G w c u ∧ u.oneCell' = true) (htok : st.toks[k]? = some (n0, sz)) (hn : n0 < es.length) :
    ∃ G', Inv G' (w.alloc (.cells us e)) { st with toks := st.toks.set k (es.length, sz) } ∧ Ext G w G' (w.alloc (.cells us e)) st.heap.length st.toks.length ∧ VRel G' (w.alloc (.cells us e)) (.sl (.own k) es) (.slice (some ⟨w.heap.size, 0, none⟩) es.length cap) := by
  have hfl : (flat es).length = es.length * sz := flat_length h1
  have hle : es.length * sz ≤ cap * sz := Nat.mul_le_mul_right _ hcap
  obtain ⟨i1, e1, v1⟩ := newImm' hI (us := us) (e := e) (fr := (0, 0)) (es := es) (sz := sz) (tk := .any) cap h1 hcap (by omega) hc (.inl rfl)
  have hbs : bsize (w.alloc (.cells us e)) w.heap.size = some us.size := by simp only [bsize, alloc_new]
  have hnf : ∀ o, (w.alloc (.cells us e)).frozen? ⟨w.heap.size, o, none⟩ = false := fun o => by simp only [World.frozen?, alloc_new]; simp
  obtain ⟨i2, e2⟩ := i1.reTok (k := k) (n := n0) (n' := es.length) (sz := sz) (some ⟨w.heap.size, es.length * sz⟩) htok hn (fun i' hi' => by
    injection hi' with hi'
    subst hi'
    refine ⟨hI.bsz, ⟨us.size, hbs, by simp only []; omega, fun o _ _ => hnf o⟩, fun o ho hi => ?_, fun l hl => ?_, fun j i2 hj hi2 => ?_⟩
    · rcases hi with hi | ⟨_, hi⟩
      · have := hI.imm_lt hi; simp at this
      · simp only [] at ho; omega
    · have := (hI.img l _ hl).2; simp at this
    · obtain ⟨_, _, ⟨z, a3, _⟩, _⟩ := hI.tdom j i2 hi2
      have := bsize_lt a3
      simp only []; omega)
  refine ⟨_, i2, e1.trans e2 (Nat.le_refl _) (Nat.le_refl _), ?_⟩
  refine (v1.inv i1 e2).retok (fun sz' hsz' => ?_)
  have hne : es ≠ [] := fun e => by subst e; simp at hn
  obtain ⟨e0, he0⟩ := List.exists_mem_of_ne_nil _ hne
  have hss : sz' = sz := by rw [← hsz' e0 he0, h1 e0 he0]
  subst hss
  exact ⟨es.length, sz', by simp [Gh.setTok], Nat.le_refl _, fun _ => .inr ⟨rfl, rfl, by simp [Gh.setTok], us.size, hbs, by omega⟩⟩

/-- New elements in a token's spare room. -/
theorem ownSpare {G : Gh} {w : World} {st : St} (hI : Inv G w st) {es new : List AV} {news : List Value} {sz k b cap z : Nat} (h1 : VRel G w (.sl (.own k) es) (.slice (some ⟨b, 0, none⟩) es.length cap)) (hes : ∀ x ∈ es, x.cells.length = sz) (hnew : ∀ x ∈ new, x.cells.length = sz)
    (hroom : es.length + new.length ≤ cap) (hnl : news.length = new.length * sz) (hc : ∀ (i : Nat) (c : AV) (u : Value), (flat new)[i]? = some c → news[i]? = some u → VRel G w c u ∧ u.oneCell' = true) (htok : st.toks[k]? = some (es.length, sz)) (hpos : 0 < new.length)
    (htau : G.tau k = some ⟨b, es.length * sz⟩) (hz : bsize w b = some z) (hcz : cap * sz ≤ z) :
    ∃ G', Inv G' (w.setCells b (es.length * sz) news) { st with toks := st.toks.set k (es.length + new.length, sz) } ∧ Ext G w G' (w.setCells b (es.length * sz) news) st.heap.length st.toks.length ∧
      VRel G' (w.setCells b (es.length * sz) news) (.sl (.own k) (es ++ new)) (.slice (some ⟨b, 0, none⟩) (es.length + new.length) cap) ∧
      (∀ j, j < news.length → (w.cell? ⟨b, es.length * sz + j, none⟩).isSome = true) ∧ (∀ j, j < news.length → w.frozen? ⟨b, es.length * sz + j, none⟩ = false) := by
  obtain ⟨t1, t2, ⟨z', t3, t4, t5⟩, t6, t7⟩ := hI.tdom k _ htau
  simp only [] at t2 t3 t4 t5 t6 t7
  rw [hz] at t3
  injection t3 with t3
  subst t3
  have hsum : es.length * sz + new.length * sz = (es.length + new.length) * sz := (Nat.add_mul _ _ _).symm
  have hle : (es.length + new.length) * sz ≤ cap * sz := Nat.mul_le_mul_right _ hroom
  obtain ⟨c, elem, fr, hb, hcz'⟩ : ∃ c elem fr, w.heap[b]? = some (.cells c elem fr) ∧ c.size = z := by
    unfold bsize at hz
    split at hz
    · rename_i c e f hh
      injection hz with hz
      exact ⟨c, e, f, hh, hz⟩
    · cases hz
  have hcellw : ∀ j, j < news.length → ∃ v, w.cell? ⟨b, es.length * sz + j, none⟩ = some v := fun j hj => by
    have : es.length * sz + j < c.size := by omega
    exact ⟨c[es.length * sz + j], by simp only [World.cell?, hb]; simp [this]⟩
  obtain ⟨i1, e1⟩ := Inv.storeSpares htau news w st (es.length * sz) hI (Nat.le_refl _)
  have hbs : bsize (w.setCells b (es.length * sz) news) b = some z := e1.size _ _ hz
  have hfr : ∀ (us : List Value) (w : World) (o o' : Nat), (w.setCells b o us).frozen? ⟨b, o', none⟩ = w.frozen? ⟨b, o', none⟩ := by
    intro us
    induction us with
    | nil => intros; rfl
    | cons u us ih =>
      intro w o o'
      show ((w.setCell ⟨b, o, none⟩ u).setCells b (o + 1) us).frozen? _ = _
      rw [ih, setCell_frozen]
  obtain ⟨i2, e2⟩ := i1.reTok (k := k) (n := es.length) (n' := es.length + new.length) (sz := sz) (some ⟨b, (es.length + new.length) * sz⟩) htok (by omega) (fun i' hi' => by
    injection hi' with hi'
    subst hi'
    refine ⟨t2, ⟨z, hbs, by simp only []; omega, fun o ho hz => by rw [hfr]; exact t5 o (by simp only [] at ho; omega) hz⟩, fun o ho => t6 o (by simp only [] at ho; omega), t7, fun j i2 hj hi2 e => hj (hI.tinj j k i2 _ hi2 htau e)⟩)
  have i3 := i2.addImm (fun b' o => b' = b ∧ es.length * sz ≤ o ∧ o < (es.length + new.length) * sz) (fun b' o ⟨hb', ho, ho'⟩ => by
      subst hb'
      have := setCells_get b' news w (es.length * sz) hcellw (o - es.length * sz) (by omega)
      rw [show es.length * sz + (o - es.length * sz) = o by omega] at this
      exact ⟨_, this⟩) (fun b' o ⟨hb', _⟩ l hl => by subst hb'; exact t7 l hl) (fun b' o ⟨hb', ho, ho'⟩ j i hj e => by
      subst hb'
      by_cases ej : j = k
      · subst ej
        simp [Gh.setTok] at hj
        subst hj
        exact ho'
      · simp only [Gh.setTok, if_neg ej] at hj
        exact absurd (hI.tinj j k i _ hj htau e) ej)
  have e3 := Ext.addImm (G.setTok k (es.length + new.length, sz) (some ⟨b, (es.length + new.length) * sz⟩)) (w.setCells b (es.length * sz) news) (fun b' o => b' = b ∧ es.length * sz ≤ o ∧ o < (es.length + new.length) * sz) st.heap.length st.toks.length
  have eAll := (e1.trans e2 (Nat.le_refl _) (Nat.le_refl _)).trans e3 (Nat.le_refl _) (Nat.le_refl _)
  refine ⟨_, i3, eAll, ?_, fun j hj => by obtain ⟨v, hv⟩ := hcellw j hj; simp [hv], fun j hj => t5 _ (by omega) (by omega)⟩
  have hfe : (flat es).length = es.length * sz := flat_length hes
  have hold := h1.inv hI eAll
  cases hold with
  | slz => simp only [List.length_nil] at hroom; omega
  | sl _ _ _ _ _ sz' cv g1 g2 g3 g4 g5 =>
    have hl : (es ++ new).length = es.length + new.length := by simp
    have key : ∀ (j : Nat) (c : AV), (flat (es ++ new))[j]? = some c → es.length * sz ≤ j → ∃ (hj : j - es.length * sz < news.length), (flat new)[j - es.length * sz]? = some c := fun j c hj hge => by
      rw [flat_append, List.getElem?_append_right (by omega), hfe] at hj
      have := (List.getElem?_eq_some_iff.1 hj).1
      rw [flat_length hnew] at this
      exact ⟨by omega, hj⟩
    have := VRel.sl (G := (G.setTok k (es.length + new.length, sz) (some ⟨b, (es.length + new.length) * sz⟩)).addImm (fun b' o => b' = b ∧ es.length * sz ≤ o ∧ o < (es.length + new.length) * sz)) (w := w.setCells b (es.length * sz) news) (.own k) (es ++ new) b 0 cap sz (fun j => if j < es.length * sz then cv j else news.getD (j - es.length * sz) undef)
      (fun x hx => (List.mem_append.1 hx).elim (hes x) (hnew x)) (by rw [hl]; exact hroom) (fun j c hj => ?_) (fun j c hj => ?_) ?_
    · rw [hl] at this; exact this
    · simp only [Nat.zero_add]
      rcases Nat.lt_or_ge j (es.length * sz) with hlt | hge
      · rw [flat_append, List.getElem?_append_left (by omega)] at hj
        simp only [if_pos hlt]
        have := g3 j c hj
        simpa using this
      · obtain ⟨hj1, hj2⟩ := key j c hj hge
        simp only [if_neg (Nat.not_lt.2 hge)]
        have hget := setCells_get b news w (es.length * sz) hcellw (j - es.length * sz) hj1
        rw [show es.length * sz + (j - es.length * sz) = j by omega] at hget
        have hr := hc _ c news[j - es.length * sz] hj2 (List.getElem?_eq_getElem hj1)
        refine ⟨.inr ⟨rfl, hge, by omega⟩, ?_, ?_⟩
        · rw [hget]; simp [List.getD, hj1]
        · simpa [List.getD, hj1] using hr.2
    · rcases Nat.lt_or_ge j (es.length * sz) with hlt | hge
      · rw [flat_append, List.getElem?_append_left (by omega)] at hj
        simp only [if_pos hlt]
        exact g4 j c hj
      · obtain ⟨hj1, hj2⟩ := key j c hj hge
        simp only [if_neg (Nat.not_lt.2 hge)]
        have hr := hc _ c news[j - es.length * sz] hj2 (List.getElem?_eq_getElem hj1)
        have := hr.1.inv hI eAll
        simpa [List.getD, hj1] using this
    · exact ⟨es.length + new.length, sz, by simp [Gh.addImm, Gh.setTok], by rw [hl]; exact Nat.le_refl _, fun _ => .inr ⟨rfl, rfl, by rw [hl]; simp [Gh.addImm, Gh.setTok], z, hbs, hcz⟩⟩

end Go.Am

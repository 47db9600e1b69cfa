/- The abstract machine: what each change of a world does to the relation. -/
import Derived.Test.YtbmcgfdopaaiiaaZAmBase
import Derived.Laws.IdiomCopy
set_option linter.all false
namespace Go.Am
open Go.RowKit (Below)

theorem cell_of_block {w w' : World} {b : Nat} (h : w'.heap[b]? = w.heap[b]?) (o : Nat) : w'.cell? ⟨b, o, none⟩ = w.cell? ⟨b, o, none⟩ := by
  simp [World.cell?, h]

theorem frozen_of_block {w w' : World} {b : Nat} (h : w'.heap[b]? = w.heap[b]?) (o : Nat) : w'.frozen? ⟨b, o, none⟩ = w.frozen? ⟨b, o, none⟩ := by
  simp [World.frozen?, h]

theorem bsize_of_block {w w' : World} {b : Nat} (h : w'.heap[b]? = w.heap[b]?) : bsize w' b = bsize w b := by
  simp [bsize, h]

theorem alloc_old (w : World) (o : Obj) {b : Nat} (h : b < w.heap.size) : (w.alloc o).heap[b]? = w.heap[b]? := Below.heap_alloc w o b h

theorem alloc_new (w : World) (o : Obj) : (w.alloc o).heap[w.heap.size]? = some o := by
  show (w.heap.push o)[w.heap.size]? = _
  simp

theorem alloc_size (w : World) (o : Obj) : (w.alloc o).heap.size = w.heap.size + 1 := by
  show (w.heap.push o).size = _
  simp

theorem cell_lt {w : World} {b o : Nat} {v : Value} (h : w.cell? ⟨b, o, none⟩ = some v) : b < w.heap.size := by
  rcases Nat.lt_or_ge b w.heap.size with hb | hb
  · exact hb
  · simp [World.cell?, Array.getElem?_eq_none hb] at h

theorem bsize_lt {w : World} {b z : Nat} (h : bsize w b = some z) : b < w.heap.size := by
  rcases Nat.lt_or_ge b w.heap.size with hb | hb
  · exact hb
  · simp [bsize, Array.getElem?_eq_none hb] at h

theorem Inv.imm_lt {G : Gh} {w : World} {st : St} (h : Inv G w st) {b o : Nat} (hi : G.imm b o) : b < w.heap.size := by
  obtain ⟨v, hv⟩ := h.cells b o hi
  exact cell_lt hv

theorem BlkRel.keep {G G' : Gh} {w w' : World} {B : Nat} {b : Blk} (h : BlkRel G w B b) (hv : ∀ v x, VRel G w v x → VRel G' w' v x) (hb : w'.heap[B]? = w.heap[B]?)
    (him : ∀ o, G.imm B o → G'.imm B o) (hno : (∃ vs, b = .cells false vs) → (∀ o, ¬ G.imm B o) → ∀ o, ¬ G'.imm B o) : BlkRel G' w' B b := by
  cases b with
  | cells fz vs =>
    obtain ⟨c, elem, fr, h1, h2, h3, h4⟩ := h
    refine ⟨c, elem, fr, hb.trans h1, h2, fun i v x hi hx => ⟨hv _ _ (h3 i v x hi hx).1, (h3 i v x hi hx).2⟩, ?_⟩
    cases fz with
    | true => exact fun i hi => him _ (h4 i hi)
    | false => exact ⟨hno ⟨_, rfl⟩ h4.1, fun o ho => (frozen_of_block hb o).trans (h4.2 o ho)⟩
  | map es =>
    obtain ⟨cs, clock, h1, p, p1, p2, p3, p4, p5⟩ := h
    exact ⟨cs, clock, hb.trans h1, p, p1, p2, fun i e c hi hc => ⟨hv _ _ (p3 i e c hi hc).1, hv _ _ (p3 i e c hi hc).2⟩, p4, p5⟩
  | gone => trivial

/-! A draw. -/

theorem Ext.drawn (G : Gh) (w : World) (d n m : Nat) : Ext G w G { w with drawn := d } n m :=
  ⟨fun _ _ => rfl, fun _ _ h => h, fun _ _ _ => rfl, fun _ _ h => h, fun _ p _ h => ⟨p, h, rfl, Nat.le_refl _, fun _ => rfl⟩, Nat.le_refl _, rfl, rfl⟩

theorem Inv.drawn {G : Gh} {w : World} {st : St} (h : Inv G w st) (d : Nat) : Inv G { w with drawn := d } st where
  dom := h.dom
  img := h.img
  inj := h.inj
  blk l b hl := by
    obtain ⟨B, h1, h2⟩ := h.blk l b hl
    exact ⟨B, h1, h2.keep (fun v x hv => hv.inv h (Ext.drawn G w d _ _)) rfl (fun _ hi => hi) (fun _ hi => hi)⟩
  tl := h.tl
  tdom := h.tdom
  tinj := h.tinj
  cells := h.cells
  below := ⟨h.below.os, h.below.tape, h.below.output, h.below.size, h.below.block⟩
  bsz := h.bsz

/-! A new block of cells that may be written. -/

def Gh.addRho (G : Gh) (l B : Nat) : Gh := { G with rho := fun i => if i = l then some B else G.rho i }

theorem Inv.allocMut {G : Gh} {w : World} {st : St} (h : Inv G w st) (o : Obj) (b : Blk)
    (hb : ∀ G' w', (∀ v x, VRel G w v x → VRel G' w' v x) → w'.heap[w.heap.size]? = some o → (∀ i, ¬ G'.imm w.heap.size i) → BlkRel G' w' w.heap.size b) :
    Inv (G.addRho st.heap.length w.heap.size) (w.alloc o) { st with heap := st.heap ++ [b] } ∧
    Ext G w (G.addRho st.heap.length w.heap.size) (w.alloc o) st.heap.length st.toks.length := by
  have hE : Ext G w (G.addRho st.heap.length w.heap.size) (w.alloc o) st.heap.length st.toks.length :=
    { rho := fun l hl => by simp [Gh.addRho, Nat.ne_of_lt hl]
      imm := fun _ _ hi => hi
      cell := fun b o' hi => cell_of_block (alloc_old w o (h.imm_lt hi)) o'
      size := fun b z hz => (bsize_of_block (alloc_old w o (bsize_lt hz))).trans hz
      tok := fun _ p _ hp => ⟨p, hp, rfl, Nat.le_refl _, fun _ => rfl⟩
      heap := by rw [alloc_size]; omega
      base := rfl
      w0 := rfl }
  have hv : ∀ v x, VRel G w v x → VRel (G.addRho st.heap.length w.heap.size) (w.alloc o) v x := fun v x hv => hv.inv h hE
  refine ⟨?_, hE⟩
  exact {
    dom := fun l B hl => by
      simp only [Gh.addRho] at hl
      split at hl
      · simp; omega
      · have := h.dom l B hl; simp; omega
    img := fun l B hl => by
      rw [alloc_size]
      simp only [Gh.addRho] at hl
      split at hl
      · injection hl with hl; subst hl; exact ⟨h.bsz, by omega⟩
      · have := h.img l B hl; exact ⟨this.1, by omega⟩
    inj := fun l l' B hl hl' => by
      simp only [Gh.addRho] at hl hl'
      split at hl <;> split at hl'
      · omega
      · injection hl with hl; subst hl; have := h.img _ _ hl'; omega
      · injection hl' with hl'; subst hl'; have := h.img _ _ hl; omega
      · exact h.inj l l' B hl hl'
    blk := fun l b' hl => by
      rcases Nat.lt_or_ge l st.heap.length with hlt | hge
      · rw [List.getElem?_append_left hlt] at hl
        obtain ⟨B, h1, h2⟩ := h.blk l b' hl
        refine ⟨B, by simp [Gh.addRho, Nat.ne_of_lt hlt, h1], h2.keep hv (alloc_old w o (h.img l B h1).2) (fun _ hi => hi) (fun _ hi => hi)⟩
      · rw [List.getElem?_append_right hge] at hl
        have : l = st.heap.length := by
          rcases Nat.lt_or_ge (l - st.heap.length) 1 with hh | hh
          · omega
          · simp [List.getElem?_eq_none (by simpa using hh : [b].length ≤ _)] at hl
        subst this
        simp at hl
        subst hl
        exact ⟨w.heap.size, by simp [Gh.addRho], hb _ _ hv (alloc_new w o) (fun i hi => by have := h.imm_lt (o := i) hi; omega)⟩
    tl := h.tl
    tdom := fun k i hk => by
      obtain ⟨a1, a2, ⟨z, a3, a4, a5⟩, a6, a7⟩ := h.tdom k i hk
      have hlt := bsize_lt a3
      refine ⟨a1, a2, ⟨z, (bsize_of_block (alloc_old w o hlt)).trans a3, a4, fun p hp hz => (frozen_of_block (alloc_old w o hlt) p).trans (a5 p hp hz)⟩, a6, fun l hl => ?_⟩
      simp only [Gh.addRho] at hl
      split at hl
      · injection hl with hl; omega
      · obtain ⟨vs, hvs⟩ := a7 l hl
        exact ⟨vs, by rw [List.getElem?_append_left (h.dom l _ hl)]; exact hvs⟩
    tinj := h.tinj
    cells := fun b o' hi => by
      obtain ⟨v, hv⟩ := h.cells b o' hi
      exact ⟨v, by rw [cell_of_block (alloc_old w o (cell_lt hv))]; exact hv⟩
    below := h.below.trans ⟨rfl, rfl, rfl, by rw [alloc_size]; omega, fun k hk => alloc_old w o (Nat.lt_of_lt_of_le hk h.bsz)⟩
    bsz := by rw [alloc_size]; have := h.bsz; show G.base ≤ _; omega }


/-! A new block of which the abstract machine knows nothing. -/

theorem Inv.allocGarbage {G : Gh} {w : World} {st : St} (h : Inv G w st) (o : Obj) :
    Inv G (w.alloc o) st ∧ Ext G w G (w.alloc o) st.heap.length st.toks.length := by
  have hE : Ext G w G (w.alloc o) st.heap.length st.toks.length :=
    { rho := fun l hl => rfl
      imm := fun _ _ hi => hi
      cell := fun b o' hi => cell_of_block (alloc_old w o (h.imm_lt hi)) o'
      size := fun b z hz => (bsize_of_block (alloc_old w o (bsize_lt hz))).trans hz
      tok := fun _ p _ hp => ⟨p, hp, rfl, Nat.le_refl _, fun _ => rfl⟩
      heap := by rw [alloc_size]; omega
      base := rfl
      w0 := rfl }
  refine ⟨?_, hE⟩
  exact {
    dom := h.dom
    img := fun l B hl => by rw [alloc_size]; have := h.img l B hl; exact ⟨this.1, by omega⟩
    inj := h.inj
    blk := fun l b' hl => by
      obtain ⟨B, h1, h2⟩ := h.blk l b' hl
      exact ⟨B, h1, h2.keep (fun v x hv => hv.inv h hE) (alloc_old w o (h.img l B h1).2) (fun _ hi => hi) (fun _ hi => hi)⟩
    tl := h.tl
    tdom := fun k i hk => by
      obtain ⟨a1, a2, ⟨z, a3, a4, a5⟩, a6, a7⟩ := h.tdom k i hk
      have hlt := bsize_lt a3
      exact ⟨a1, a2, ⟨z, (bsize_of_block (alloc_old w o hlt)).trans a3, a4, fun p hp hz => (frozen_of_block (alloc_old w o hlt) p).trans (a5 p hp hz)⟩, a6, a7⟩
    tinj := h.tinj
    cells := fun b o' hi => by
      obtain ⟨v, hv⟩ := h.cells b o' hi
      exact ⟨v, by rw [cell_of_block (alloc_old w o (cell_lt hv))]; exact hv⟩
    below := h.below.trans ⟨rfl, rfl, rfl, by rw [alloc_size]; omega, fun k hk => alloc_old w o (Nat.lt_of_lt_of_le hk h.bsz)⟩
    bsz := by rw [alloc_size]; have := h.bsz; omega }

/-! More cells that never turn again. -/

def Gh.addImm (G : Gh) (S : Nat → Nat → Prop) : Gh := { G with imm := fun b o => G.imm b o ∨ S b o }

theorem Ext.addImm (G : Gh) (w : World) (S : Nat → Nat → Prop) (n m : Nat) : Ext G w (G.addImm S) w n m :=
  ⟨fun _ _ => rfl, fun _ _ h => .inl h, fun _ _ _ => rfl, fun _ _ h => h, fun _ p _ h => ⟨p, h, rfl, Nat.le_refl _, fun _ => rfl⟩, Nat.le_refl _, rfl, rfl⟩

theorem Inv.addImm {G : Gh} {w : World} {st : St} (h : Inv G w st) (S : Nat → Nat → Prop) (h1 : ∀ b o, S b o → ∃ v, w.cell? ⟨b, o, none⟩ = some v)
    (h2 : ∀ b o, S b o → ∀ l, G.rho l = some b → ∃ vs, st.heap[l]? = some (.cells true vs)) (h3 : ∀ b o, S b o → ∀ k i, G.tau k = some i → i.b = b → o < i.lo) :
    Inv (G.addImm S) w st where
  dom := h.dom
  img := h.img
  inj := h.inj
  blk l b hl := by
    obtain ⟨B, q1, q2⟩ := h.blk l b hl
    refine ⟨B, q1, q2.keep (fun v x hv => hv.inv h (Ext.addImm G w S _ _)) rfl (fun _ hi => .inl hi) (fun ⟨vs, hvs⟩ hn o ho => ?_)⟩
    rcases ho with ho | ho
    · exact hn o ho
    · obtain ⟨vs', hvs'⟩ := h2 B o ho l q1
      rw [hl] at hvs'
      subst hvs
      injection hvs' with e
      injection e with e1
      exact absurd e1 (by decide)
  tl := h.tl
  tdom k i hk := by
    obtain ⟨a1, a2, a3, a6, a7⟩ := h.tdom k i hk
    refine ⟨a1, a2, a3, fun o ho hi => ?_, a7⟩
    rcases hi with hi | hi
    · exact a6 o ho hi
    · have := h3 i.b o hi k i hk rfl; omega
  tinj := h.tinj
  cells b o hi := hi.elim (h.cells b o) (h1 b o)
  below := h.below
  bsz := h.bsz

/-! Tokens. -/

def Gh.setTok (G : Gh) (k : Nat) (p : Nat × Nat) (i : Option TokI) : Gh := { G with tl := fun j => if j = k then some p else G.tl j, tau := fun j => if j = k then i else G.tau j }

theorem Ext.setTok (G : Gh) (w : World) {k : Nat} {p p0 : Nat × Nat} (i : Option TokI) (n m : Nat) (h0 : G.tl k = some p0 ∨ m ≤ k) (h1 : G.tl k = some p0 → p.2 = p0.2 ∧ p0.1 < p.1) : Ext G w (G.setTok k p i) w n m := by
  refine ⟨fun _ _ => rfl, fun _ _ h => h, fun _ _ _ => rfl, fun _ _ h => h, fun j q hj hq => ?_, Nat.le_refl _, rfl, rfl⟩
  by_cases e : j = k
  · subst e
    rcases h0 with h0 | h0
    · rw [h0] at hq
      injection hq with hq
      subst hq
      have := h1 h0
      exact ⟨p, by simp [Gh.setTok], this.1, by omega, fun e => by omega⟩
    · omega
  · exact ⟨q, by simp [Gh.setTok, e, hq], rfl, Nat.le_refl _, fun _ => by simp [Gh.setTok, e]⟩

theorem Inv.setTok {G : Gh} {w : World} {st : St} (h : Inv G w st) {k : Nat} {p : Nat × Nat} {i : Option TokI} {toks : List (Nat × Nat)}
    (hE : Ext G w (G.setTok k p i) w st.heap.length st.toks.length) (hlen : st.toks.length ≤ toks.length)
    (ht : ∀ j, toks[j]? = if j = k then some p else st.toks[j]?)
    (hi : ∀ i', i = some i' → G.base ≤ i'.b ∧ (∃ z, bsize w i'.b = some z ∧ i'.lo ≤ z ∧ ∀ o, i'.lo ≤ o → o < z → w.frozen? ⟨i'.b, o, none⟩ = false) ∧
      (∀ o, i'.lo ≤ o → ¬ G.imm i'.b o) ∧ (∀ l, G.rho l = some i'.b → ∃ vs, st.heap[l]? = some (.cells true vs)) ∧ (∀ j i2, j ≠ k → G.tau j = some i2 → i2.b ≠ i'.b)) :
    Inv (G.setTok k p i) w { st with toks := toks } where
  dom := h.dom
  img := h.img
  inj := h.inj
  blk l b hl := by
    obtain ⟨B, q1, q2⟩ := h.blk l b hl
    exact ⟨B, q1, q2.keep (fun v x hv => hv.inv h hE) rfl (fun _ hi => hi) (fun _ hn => hn)⟩
  tl j := by
    show (if j = k then some p else G.tl j) = toks[j]?
    rw [ht j, h.tl j]
  tdom j i' hj := by
    by_cases e : j = k
    · subst e
      simp only [Gh.setTok, if_true] at hj
      obtain ⟨a2, a3, a6, a7, _⟩ := hi i' hj
      have : toks[j]? = some p := by simp [ht]
      exact ⟨(List.getElem?_eq_some_iff.1 this).1, a2, a3, a6, a7⟩
    · simp only [Gh.setTok, if_neg e] at hj
      obtain ⟨a1, a2, a3, a6, a7⟩ := h.tdom j i' hj
      exact ⟨Nat.lt_of_lt_of_le a1 hlen, a2, a3, a6, a7⟩
  tinj j j' i1 i2 hj hj' hb := by
    simp only [Gh.setTok] at hj hj'
    split at hj <;> split at hj'
    · omega
    · exact absurd hb.symm ((hi i1 hj).2.2.2.2 j' i2 (by assumption) hj')
    · exact absurd hb ((hi i2 hj').2.2.2.2 j i1 (by assumption) hj)
    · exact h.tinj j j' i1 i2 hj hj' hb
  cells := h.cells
  below := h.below
  bsz := h.bsz

/-- A token is taken: a slice whose capacity is its length. -/
theorem Inv.newTok {G : Gh} {w : World} {st : St} (h : Inv G w st) (p : Nat × Nat) :
    Inv (G.setTok st.toks.length p none) w { st with toks := st.toks ++ [p] } ∧ Ext G w (G.setTok st.toks.length p none) w st.heap.length st.toks.length := by
  have hn : G.tl st.toks.length = none := by rw [h.tl]; simp
  have hE : Ext G w (G.setTok st.toks.length p none) w st.heap.length st.toks.length := Ext.setTok G w (p0 := p) none _ _ (.inr (Nat.le_refl _)) (fun e => by rw [hn] at e; cases e)
  refine ⟨h.setTok hE (by simp) (fun j => ?_) (fun i' e => by cases e), hE⟩
  by_cases e : j = st.toks.length
  · subst e; simp
  · rw [if_neg e]
    rcases Nat.lt_or_ge j st.toks.length with hl | hl
    · rw [List.getElem?_append_left hl]
    · rw [List.getElem?_append_right hl, List.getElem?_eq_none (by simp; omega), List.getElem?_eq_none hl]

theorem Inv.reTok {G : Gh} {w : World} {st : St} (h : Inv G w st) {k n n' sz : Nat} (i : Option TokI) (hk : st.toks[k]? = some (n, sz)) (hn : n < n')
    (hi : ∀ i', i = some i' → G.base ≤ i'.b ∧ (∃ z, bsize w i'.b = some z ∧ i'.lo ≤ z ∧ ∀ o, i'.lo ≤ o → o < z → w.frozen? ⟨i'.b, o, none⟩ = false) ∧
      (∀ o, i'.lo ≤ o → ¬ G.imm i'.b o) ∧ (∀ l, G.rho l = some i'.b → ∃ vs, st.heap[l]? = some (.cells true vs)) ∧ (∀ j i2, j ≠ k → G.tau j = some i2 → i2.b ≠ i'.b)) :
    Inv (G.setTok k (n', sz) i) w { st with toks := st.toks.set k (n', sz) } ∧ Ext G w (G.setTok k (n', sz) i) w st.heap.length st.toks.length := by
  have hE : Ext G w (G.setTok k (n', sz) i) w st.heap.length st.toks.length := Ext.setTok G w (p0 := (n, sz)) i _ _ (.inl (by rw [h.tl]; exact hk)) (fun _ => ⟨rfl, hn⟩)
  refine ⟨h.setTok hE (by simp) (fun j => ?_) hi, hE⟩
  by_cases e : j = k
  · subst e; simp [List.getElem?_set, (List.getElem?_eq_some_iff.1 hk).1]
  · rw [if_neg e, List.getElem?_set, if_neg (fun e' => e e'.symm)]

/-! Stores. -/

theorem setCell_old (w : World) (a : Addr) (u : Value) {k : Nat} (h : k ≠ a.block) : (w.setCell a u).heap[k]? = w.heap[k]? := Below.heap_setCell w a u k h

theorem setCell_cells {w : World} {b o : Nat} {u : Value} {c : Array Value} {e : TypeId} {fr : Nat × Nat} (h : w.heap[b]? = some (.cells c e fr)) : (w.setCell ⟨b, o, none⟩ u).heap[b]? = some (.cells (c.setIfInBounds o u) e fr) := by
  show (w.heap.modify b _)[b]? = _
  rw [Array.getElem?_modify, if_pos rfl, h]
  simp

theorem setCell_size (w : World) (a : Addr) (u : Value) : (w.setCell a u).heap.size = w.heap.size := by simp [World.setCell]

theorem setCell_bsize (w : World) (a : Addr) (u : Value) (b : Nat) : bsize (w.setCell a u) b = bsize w b := by
  by_cases e : b = a.block
  · subst e
    simp only [bsize, World.setCell, Array.getElem?_modify, if_true]
    cases hh : w.heap[a.block]? with
    | none => simp
    | some o => cases o <;> simp <;> split <;> simp
  · exact bsize_of_block (setCell_old w a u e)

theorem setCell_frozen (w : World) (a : Addr) (u : Value) (b o : Nat) : (w.setCell a u).frozen? ⟨b, o, none⟩ = w.frozen? ⟨b, o, none⟩ := by
  by_cases e : b = a.block
  · subst e
    simp only [World.frozen?, World.setCell, Array.getElem?_modify, if_true]
    cases hh : w.heap[a.block]? with
    | none => simp
    | some x => cases x <;> simp
  · exact frozen_of_block (setCell_old w a u e) o

theorem setCell_other (w : World) (b o : Nat) (u : Value) {b' o' : Nat} (h : ¬ (b' = b ∧ o' = o)) : (w.setCell ⟨b, o, none⟩ u).cell? ⟨b', o', none⟩ = w.cell? ⟨b', o', none⟩ := by
  by_cases e : b' = b
  · subst e
    have ho : o' ≠ o := fun e => h ⟨rfl, e⟩
    simp only [World.cell?, World.setCell, Array.getElem?_modify, if_true]
    cases hh : w.heap[b']? with
    | none => simp
    | some x => cases x <;> simp [Array.getElem?_setIfInBounds, Ne.symm ho]
  · exact cell_of_block (setCell_old w ⟨b, o, none⟩ u e) o'

theorem setCell_some {w : World} {b o b' o' : Nat} {u v : Value} (h : w.cell? ⟨b', o', none⟩ = some v) : ∃ v', (w.setCell ⟨b, o, none⟩ u).cell? ⟨b', o', none⟩ = some v' := by
  by_cases e : b' = b ∧ o' = o
  · obtain ⟨rfl, rfl⟩ := e
    simp only [World.cell?, World.setCell, Array.getElem?_modify, if_true] at h ⊢
    cases hh : w.heap[b']? with
    | none => simp [hh] at h
    | some x =>
      cases x with
      | cells c e f =>
        rw [hh] at h
        simp at h
        have hlt : o' < c.size := by
          rcases Nat.lt_or_ge o' c.size with hl | hl
          · exact hl
          · simp [Array.getElem?_eq_none hl] at h
        exact ⟨u, by simp [Array.getElem?_setIfInBounds, hlt]⟩
      | _ => simp [hh] at h
  · exact ⟨v, by rw [setCell_other w b o u e]; exact h⟩

/-- A store to a cell that is not among those that never turn: the relation of values holds on. -/
theorem Ext.setCell {G : Gh} {w : World} {b o : Nat} (u : Value) (n m : Nat) (h : ¬ G.imm b o) : Ext G w G (w.setCell ⟨b, o, none⟩ u) n m :=
  ⟨fun _ _ => rfl, fun _ _ h => h, fun b' o' hi => setCell_other w b o u (fun e => h (by rw [← e.1, ← e.2]; exact hi)), fun b' z hz => by rw [setCell_bsize]; exact hz,
    fun _ p _ hp => ⟨p, hp, rfl, Nat.le_refl _, fun _ => rfl⟩, by rw [setCell_size]; exact Nat.le_refl _, rfl, rfl⟩

theorem Inv.setCell {G : Gh} {w : World} {st st' : St} (h : Inv G w st) {b o : Nat} {u : Value} (hn : ¬ G.imm b o) (hbase : G.base ≤ b)
    (hst : st'.heap.length = st.heap.length ∧ st'.toks = st.toks)
    (hblk : ∀ (l : Nat) (x : Blk), st'.heap[l]? = some x → ∀ B, G.rho l = some B → BlkRel G (w.setCell ⟨b, o, none⟩ u) B x)
    (hfz : ∀ (l : Nat) (vs : List AV), st.heap[l]? = some (.cells true vs) → ∃ vs', st'.heap[l]? = some (.cells true vs')) : Inv G (w.setCell ⟨b, o, none⟩ u) st' where
  dom l B hl := by rw [hst.1]; exact h.dom l B hl
  img l B hl := by rw [setCell_size]; exact h.img l B hl
  inj := h.inj
  blk l x hl := by
    have hlt : l < st.heap.length := by rw [← hst.1]; exact (List.getElem?_eq_some_iff.1 hl).1
    obtain ⟨B, q1, _⟩ := h.blk l _ (List.getElem?_eq_getElem hlt)
    exact ⟨B, q1, hblk l x hl B q1⟩
  tl k := by rw [hst.2]; exact h.tl k
  tdom k i hk := by
    obtain ⟨a1, a2, ⟨z, a3, a4, a5⟩, a6, a7⟩ := h.tdom k i hk
    exact ⟨by rw [hst.2]; exact a1, a2, ⟨z, by rw [setCell_bsize]; exact a3, a4, fun p hp hz => by rw [setCell_frozen]; exact a5 p hp hz⟩, a6, fun l hl => by obtain ⟨vs, hvs⟩ := a7 l hl; exact hfz l vs hvs⟩
  tinj := h.tinj
  cells b' o' hi := by obtain ⟨v, hv⟩ := h.cells b' o' hi; exact setCell_some hv
  below := h.below.setCell hbase u
  bsz := by rw [setCell_size]; exact h.bsz

theorem BlkRel.setCell_other {G : Gh} {w : World} {b o B : Nat} {u : Value} {x : Blk} (h : BlkRel G w B x) (hn : ¬ G.imm b o) (hB : B ≠ b) {st : St} (hI : Inv G w st) : BlkRel G (w.setCell ⟨b, o, none⟩ u) B x :=
  h.keep (fun v y hv => hv.inv hI (Ext.setCell u _ _ hn)) (setCell_old w ⟨b, o, none⟩ u hB) (fun _ hi => hi) (fun _ hn => hn)

/-- A store into a block that may be written. -/
theorem Inv.storeMut {G : Gh} {w : World} {st : St} (h : Inv G w st) {l off B : Nat} {vs : List AV} {v : AV} {u : Value} (hl : st.heap[l]? = some (.cells false vs)) (hB : G.rho l = some B) (hoff : off < vs.length) (hv : VRel G w v u) (h1 : u.oneCell' = true) :
    Inv G (w.setCell ⟨B, off, none⟩ u) { st with heap := st.heap.set l (.cells false (vs.set off v)) } ∧ Ext G w G (w.setCell ⟨B, off, none⟩ u) st.heap.length st.toks.length ∧
      (∃ y, w.cell? ⟨B, off, none⟩ = some y) ∧ w.frozen? ⟨B, off, none⟩ = false := by
  obtain ⟨B', q1, c, elem, fr, q2, q3, q4, q5, q6⟩ := h.blk l _ hl
  rw [hB] at q1
  injection q1 with q1
  subst q1
  have hE : Ext G w G (w.setCell ⟨B, off, none⟩ u) st.heap.length st.toks.length := Ext.setCell u _ _ (q5 off)
  refine ⟨?_, hE, ?_, q6 off (by omega)⟩
  · refine h.setCell (q5 off) (h.img l B hB).1 ⟨by simp, rfl⟩ (fun l' x hx B' hB' => ?_) (fun l' vs' hl' => ?_)
    · by_cases e : l' = l
      · subst e
        rw [hB] at hB'
        injection hB' with hB'
        subst hB'
        have hlt := (List.getElem?_eq_some_iff.1 hl).1
        simp [List.getElem?_set, hlt] at hx
        subst hx
        refine ⟨_, elem, fr, setCell_cells q2, by simpa using q3, fun i v' x' hi hx' => ?_, q5, fun p hp => ?_⟩
        · by_cases ei : i = off
          · subst ei
            simp [List.getElem?_set, hoff] at hi
            simp [Array.getElem?_setIfInBounds, (by omega : i < c.size)] at hx'
            subst hi; subst hx'
            exact ⟨hv.inv h hE, h1⟩
          · rw [List.getElem?_set, if_neg (fun e => ei e.symm)] at hi
            rw [Array.getElem?_setIfInBounds, if_neg (fun e => ei e.symm)] at hx'
            exact ⟨(q4 i v' x' hi hx').1.inv h hE, (q4 i v' x' hi hx').2⟩
        · rw [setCell_frozen]; exact q6 p (by simpa using hp)
      · rw [List.getElem?_set, if_neg (fun e' => e e'.symm)] at hx
        obtain ⟨B2, r1, r2⟩ := h.blk l' x hx
        rw [hB'] at r1
        injection r1 with r1
        subst r1
        exact r2.setCell_other (q5 off) (fun eB => e (h.inj _ _ _ hB' (by rw [eB]; exact hB))) h
    · by_cases e : l' = l
      · subst e; rw [hl] at hl'; injection hl' with e1; injection e1 with e2; exact absurd e2 (by decide)
      · exact ⟨vs', by simp only []; rw [List.getElem?_set, if_neg (fun e' => e e'.symm)]; exact hl'⟩
  · have : off < c.size := by omega
    exact ⟨c[off], by simp [World.cell?, q2, this]⟩

/-- A store into a token's spare room. -/
theorem Inv.storeSpare {G : Gh} {w : World} {st : St} (h : Inv G w st) {k : Nat} {i : TokI} (hk : G.tau k = some i) {o : Nat} (ho : i.lo ≤ o) (u : Value) :
    Inv G (w.setCell ⟨i.b, o, none⟩ u) st ∧ Ext G w G (w.setCell ⟨i.b, o, none⟩ u) st.heap.length st.toks.length := by
  obtain ⟨a1, a2, a3, a6, a7⟩ := h.tdom k i hk
  refine ⟨h.setCell (a6 o ho) a2 ⟨rfl, rfl⟩ (fun l x hx B hB => ?_) (fun l vs hl => ⟨vs, hl⟩), Ext.setCell u _ _ (a6 o ho)⟩
  obtain ⟨B2, r1, r2⟩ := h.blk l x hx
  rw [hB] at r1
  injection r1 with r1
  subst r1
  by_cases e : B = i.b
  · subst e
    obtain ⟨vs, hvs⟩ := a7 l hB
    rw [hx] at hvs
    injection hvs with hvs
    subst hvs
    obtain ⟨c, elem, fr, q2, q3, q4, q5⟩ := r2
    refine ⟨_, elem, fr, setCell_cells q2, by simpa using q3, fun j v' x' hj hx' => ?_, q5⟩
    have hlt : j < vs.length := (List.getElem?_eq_some_iff.1 hj).1
    have hne : ¬ o = j := fun e => a6 o ho (by rw [e]; exact q5 j hlt)
    rw [Array.getElem?_setIfInBounds, if_neg hne] at hx'
    exact ⟨(q4 j v' x' hj hx').1.inv h (Ext.setCell u _ _ (a6 o ho)), (q4 j v' x' hj hx').2⟩
  · exact r2.setCell_other (a6 o ho) e h

/-- A block that may be written is written no more. -/
theorem Inv.freezeBlk {G : Gh} {w : World} {st : St} (h : Inv G w st) {l B : Nat} {vs : List AV} {fz : Bool} (hl : st.heap[l]? = some (.cells fz vs)) (hB : G.rho l = some B) :
    Inv (G.addImm fun b o => b = B ∧ o < vs.length) w { st with heap := st.heap.set l (.cells true vs) } ∧
    Ext G w (G.addImm fun b o => b = B ∧ o < vs.length) w st.heap.length st.toks.length := by
  have hlt := (List.getElem?_eq_some_iff.1 hl).1
  obtain ⟨B', q1, c, elem, fr, q2, q3, q4, q5⟩ := h.blk l _ hl
  rw [hB] at q1
  injection q1 with q1
  subst q1
  have hE := Ext.addImm G w (fun b o => b = B ∧ o < vs.length) st.heap.length st.toks.length
  refine ⟨?_, hE⟩
  exact {
    dom := fun l' B' hl' => by simpa using h.dom l' B' hl'
    img := h.img
    inj := h.inj
    blk := fun l' x hx => by
      by_cases e : l' = l
      · subst e
        simp [List.getElem?_set, hlt] at hx
        subst hx
        exact ⟨B, hB, c, elem, fr, q2, q3, fun i v x hi hx => ⟨(q4 i v x hi hx).1.inv h hE, (q4 i v x hi hx).2⟩, fun i hi => .inr ⟨rfl, hi⟩⟩
      · rw [List.getElem?_set, if_neg (fun e' => e e'.symm)] at hx
        obtain ⟨B2, r1, r2⟩ := h.blk l' x hx
        refine ⟨B2, r1, r2.keep (fun v x hv => hv.inv h hE) rfl (fun _ hi => .inl hi) (fun _ hn o ho => ?_)⟩
        rcases ho with ho | ho
        · exact hn o ho
        · exact e (h.inj _ _ _ r1 (by rw [ho.1]; exact hB))
    tl := h.tl
    tdom := fun k i hk => by
      obtain ⟨a1, a2, a3, a6, a7⟩ := h.tdom k i hk
      refine ⟨a1, a2, a3, fun o ho hi => ?_, fun l' hl' => ?_⟩
      · rcases hi with hi | ⟨e1, e2⟩
        · exact a6 o ho hi
        · obtain ⟨vs', hvs'⟩ := a7 l (by rw [e1]; exact hB)
          rw [hl] at hvs'
          injection hvs' with e3
          injection e3 with e4 e5
          subst e4
          exact a6 o ho (by rw [e1]; exact q5 o e2)
      · obtain ⟨vs', hvs'⟩ := a7 l' hl'
        by_cases e : l' = l
        · subst e; exact ⟨vs, by simp [List.getElem?_set, hlt]⟩
        · exact ⟨vs', by simp only []; rw [List.getElem?_set, if_neg (fun e' => e e'.symm)]; exact hvs'⟩
    tinj := h.tinj
    cells := fun b o hi => by
      rcases hi with hi | ⟨rfl, e2⟩
      · exact h.cells b o hi
      · have : o < c.size := by omega
        exact ⟨c[o], by simp [World.cell?, q2, this]⟩
    below := h.below
    bsz := h.bsz }


theorem set_set' {α : Type} (l : List α) (i : Nat) (a b : α) : (l.set i a).set i b = l.set i b := by simp

/-- Stores of a row of cells into a block that may be written. -/
theorem Inv.storeMuts {l B : Nat} {G : Gh} : ∀ (cs : List AV) (us : List Value) (w : World) (st : St) (vs : List AV) (off : Nat), Inv G w st → st.heap[l]? = some (.cells false vs) → G.rho l = some B → off + cs.length ≤ vs.length → cs.length = us.length →
    (∀ (i : Nat) (c : AV) (u : Value), cs[i]? = some c → us[i]? = some u → VRel G w c u ∧ u.oneCell' = true) →
    Inv G (w.setCells B off us) { st with heap := st.heap.set l (.cells false (setRange vs off cs)) } ∧ Ext G w G (w.setCells B off us) st.heap.length st.toks.length
  | [], [], w, st, vs, off, h, hl, hB, hoff, hlen, hv => by
    have : st.heap.set l (.cells false vs) = st.heap := by
      apply List.ext_getElem?
      intro i
      by_cases e : l = i
      · subst e; rw [List.getElem?_set, if_pos rfl, if_pos (List.getElem?_eq_some_iff.1 hl).1, hl]
      · rw [List.getElem?_set, if_neg e]
    simp only [setRange, World.setCells, this]
    exact ⟨h, Ext.refl _ _ _ _⟩
  | c :: cs, u :: us, w, st, vs, off, h, hl, hB, hoff, hlen, hv => by
    have h0 := hv 0 c u rfl rfl
    obtain ⟨i1, e1, _, _⟩ := h.storeMut (vs := vs) (off := off) hl hB (by simp at hoff; omega) h0.1 h0.2
    have hlt := (List.getElem?_eq_some_iff.1 hl).1
    obtain ⟨i2, e2⟩ := Inv.storeMuts cs us (w.setCell ⟨B, off, none⟩ u) { st with heap := st.heap.set l (.cells false (vs.set off c)) } (vs.set off c) (off + 1) i1 (by simp [List.getElem?_set, hlt]) hB (by simp at hoff ⊢; omega) (by simpa using hlen)
      (fun i c' u' hc hu => ⟨(hv (i + 1) c' u' (by simpa using hc) (by simpa using hu)).1.inv h e1, (hv (i + 1) c' u' (by simpa using hc) (by simpa using hu)).2⟩)
    simp only [set_set'] at i2
    exact ⟨i2, e1.trans e2 (by simp) (by simp)⟩
  | [], u :: us, _, _, _, _, _, _, _, _, hlen, _ => by simp at hlen
  | c :: cs, [], _, _, _, _, _, _, _, _, hlen, _ => by simp at hlen

theorem Inv.storeSpares {G : Gh} {k : Nat} {i : TokI} (hk : G.tau k = some i) : ∀ (us : List Value) (w : World) (st : St) (o : Nat), Inv G w st → i.lo ≤ o →
    Inv G (w.setCells i.b o us) st ∧ Ext G w G (w.setCells i.b o us) st.heap.length st.toks.length
  | [], w, st, o, h, ho => ⟨h, Ext.refl _ _ _ _⟩
  | u :: us, w, st, o, h, ho => by
    obtain ⟨i1, e1⟩ := h.storeSpare hk ho u
    obtain ⟨i2, e2⟩ := Inv.storeSpares hk us (w.setCell ⟨i.b, o, none⟩ u) st (o + 1) i1 (by omega)
    exact ⟨i2, e1.trans e2 (Nat.le_refl _) (Nat.le_refl _)⟩

theorem setCells_get (b : Nat) : ∀ (us : List Value) (w : World) (o : Nat), (∀ j, j < us.length → ∃ v, w.cell? ⟨b, o + j, none⟩ = some v) → ∀ j (hj : j < us.length), (w.setCells b o us).cell? ⟨b, o + j, none⟩ = some us[j]
  | [], _, _, _, j, hj => by simp at hj
  | u :: us, w, o, h, j, hj => by
    have hset : (w.setCell ⟨b, o, none⟩ u).cell? ⟨b, o, none⟩ = some u := by
      obtain ⟨v, hv⟩ := h 0 (by simp)
      simp only [World.cell?, World.setCell, Array.getElem?_modify, if_true, Nat.add_zero] at hv ⊢
      cases hh : w.heap[b]? with
      | none => simp [hh] at hv
      | some x =>
        cases x with
        | cells c e f =>
          rw [hh] at hv
          simp at hv
          have hlt : o < c.size := by
            rcases Nat.lt_or_ge o c.size with hl | hl
            · exact hl
            · simp [Array.getElem?_eq_none hl] at hv
          simp [Array.getElem?_setIfInBounds, hlt]
        | _ => simp [hh] at hv
    have hkeep : ∀ (us : List Value) (w : World) (o' : Nat), o < o' → (w.setCells b o' us).cell? ⟨b, o, none⟩ = w.cell? ⟨b, o, none⟩ := by
      intro us
      induction us with
      | nil => intros; rfl
      | cons u us ih =>
        intro w o' ho
        show ((w.setCell ⟨b, o', none⟩ u).setCells b (o' + 1) us).cell? _ = _
        rw [ih _ _ (by omega), setCell_other w b o' u (by omega)]
    cases j with
    | zero =>
      show ((w.setCell ⟨b, o, none⟩ u).setCells b (o + 1) us).cell? ⟨b, o + 0, none⟩ = _
      have := hkeep us (w.setCell ⟨b, o, none⟩ u) (o + 1) (by omega)
      rw [hset] at this
      exact this
    | succ j =>
      have ih := setCells_get b us (w.setCell ⟨b, o, none⟩ u) (o + 1) (fun j hj => by
        obtain ⟨v, hv⟩ := h (j + 1) (by simp; omega)
        exact setCell_some (v := v) (by rw [show o + 1 + j = o + (j + 1) by omega]; exact hv)) j (by simpa using hj)
      show ((w.setCell ⟨b, o, none⟩ u).setCells b (o + 1) us).cell? ⟨b, o + (j + 1), none⟩ = _
      rw [show o + (j + 1) = o + 1 + j by omega, ih]
      rfl

end Go.Am

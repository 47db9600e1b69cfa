/- The abstract machine: what nobody names any more is forgotten. -/
import Derived.Test.YtbmcgfdopaaiiaaZAmWp2
set_option linter.all false
namespace Go.Am

/-! Values that name no block and no token from a number on. -/

def tokOk (m : Nat) : Tok → Bool
  | .own k => decide (k < m)
  | _ => true

mutual
def AV.ok (n m : Nat) : AV → Bool
  | .ptr l _ => decide (l < n)
  | .msl l _ _ _ => decide (l < n)
  | .map (some l) => decide (l < n)
  | .map none => true
  | .rptr v => v.ok n m
  | .sl t es => tokOk m t && okL n m es
  | .fn _ xs ys => okL n m xs && okL n m ys
  | .agg cs => okL n m cs
  | .tup cs => okL n m cs
  | .any => true
  | .bool _ => true
  | .int _ _ => true
  | .str _ => true
  | .nilp => true
  | .nilfn => true
def okL (n m : Nat) : List AV → Bool
  | [] => true
  | v :: vs => v.ok n m && okL n m vs
end

theorem okL_iff {n m : Nat} : ∀ {l : List AV}, okL n m l = true ↔ ∀ v ∈ l, v.ok n m = true
  | [] => by simp [okL]
  | v :: l => by simp [okL, okL_iff (l := l)]

theorem okL_get {n m : Nat} {l : List AV} (h : okL n m l = true) {i : Nat} {c : AV} (hc : l[i]? = some c) : c.ok n m = true := okL_iff.1 h c (List.mem_of_getElem? hc)

theorem okL_flat {n m : Nat} {es : List AV} (h : okL n m es = true) {j : Nat} {c : AV} (hc : (flat es)[j]? = some c) : c.ok n m = true := by
  have := List.mem_of_getElem? hc
  simp only [flat, List.mem_flatMap] at this
  obtain ⟨e, he, hce⟩ := this
  have := okL_iff.1 h e he
  cases e with
  | agg cs => simp only [AV.ok] at this; exact okL_iff.1 this c hce
  | _ => simp [AV.cells] at hce; subst hce; exact this

theorem ok_cells {n m : Nat} {v : AV} (h : v.ok n m = true) {j : Nat} {c : AV} (hc : v.cells[j]? = some c) : c.ok n m = true := by
  cases v with
  | agg cs => simp only [AV.ok] at h; exact okL_get h hc
  | _ =>
    have := List.mem_of_getElem? hc
    simp [AV.cells] at this
    subst this
    exact h

def Gh.restrict (G : Gh) (n m : Nat) : Gh := { G with
  rho := fun l => if l < n then G.rho l else none
  tl := fun k => if k < m then G.tl k else none
  tau := fun k => if k < m then G.tau k else none }

theorem VRel.restrict {G : Gh} {w : World} {n m : Nat} {v : AV} {x : Value} (h : VRel G w v x) (ho : v.ok n m = true) : VRel (G.restrict n m) w v x := by
  induction h with
  | any v => exact .any v
  | bool b => exact .bool b
  | int k n => exact .int k n
  | str s => exact .str s
  | nilp => exact .nilp
  | ptr l off B hl => exact .ptr l off B (by simp [AV.ok] at ho; simp [Gh.restrict, ho, hl])
  | rptr v b o cv h1 h2 ih => exact .rptr v b o cv h1 (fun j c hj => ih j c hj (ok_cells (by simpa [AV.ok] using ho) hj))
  | slnil t ht =>
    refine .slnil t ?_
    cases t with
    | own k => obtain ⟨p, hp⟩ := ht; simp [AV.ok, tokOk] at ho; exact ⟨p, by simp [Gh.restrict, ho.1, hp]⟩
    | _ => trivial
  | slz t ad ht =>
    refine .slz t ad ?_
    cases t with
    | own k => obtain ⟨p, hp⟩ := ht; simp [AV.ok, tokOk] at ho; exact ⟨p, by simp [Gh.restrict, ho.1, hp]⟩
    | _ => trivial
  | sl t es b o cap sz cv h1 h2 h3 h4 h5 ih =>
    simp only [AV.ok, Bool.and_eq_true] at ho
    refine .sl t es b o cap sz cv h1 h2 h3 (fun j c hj => ih j c hj (okL_flat ho.2 hj)) ?_
    cases t with
    | any => trivial
    | clip => exact h5
    | own k =>
      have hk : k < m := by simpa [tokOk] using ho.1
      obtain ⟨nn, s, q1, q2, q3⟩ := h5
      refine ⟨nn, s, by simp [Gh.restrict, hk, q1], q2, fun e => ?_⟩
      rcases q3 e with q3 | ⟨q3, q4, q5, q6⟩
      · exact .inl q3
      · exact .inr ⟨q3, q4, by simp [Gh.restrict, hk, q5], q6⟩
  | msl l off len sz B cap z h1 h2 h3 h4 => exact .msl l off len sz B cap z (by simp [AV.ok] at ho; simp [Gh.restrict, ho, h1]) h2 h3 h4
  | mapnil => exact .mapnil
  | map l B hl => exact .map l B (by simp [AV.ok] at ho; simp [Gh.restrict, ho, hl])
  | fn f xs ys vs us h1 h2 _ _ ih1 ih2 =>
    simp only [AV.ok, Bool.and_eq_true] at ho
    exact .fn f xs ys vs us h1 h2 (fun i c v hc hv => ih1 i c v hc hv (okL_get ho.1 hc)) (fun i c v hc hv => ih2 i c v hc hv (okL_get ho.2 hc))
  | nilfn => exact .nilfn
  | agg cs vs h1 h2 _ ih => exact .agg cs vs h1 h2 (fun i c v hc hv => ih i c v hc hv (okL_get (by simpa [AV.ok] using ho) hc))
  | tup cs vs h1 _ ih => exact .tup cs vs h1 (fun i c v hc hv => ih i c v hc hv (okL_get (by simpa [AV.ok] using ho) hc))

theorem VRel.isOk {G : Gh} {w : World} {n m : Nat} (hr : ∀ l B, G.rho l = some B → l < n) (hd : ∀ k p, G.tl k = some p → k < m) {v : AV} {x : Value} (h : VRel G w v x) : v.ok n m = true := by
  have flatOk : ∀ (es : List AV), (∀ (j : Nat) (c : AV), (flat es)[j]? = some c → c.ok n m = true) → okL n m es = true := by
    intro es h
    rw [okL_iff]
    intro e he
    have hmem : ∀ c ∈ e.cells, c.ok n m = true := fun c hc => by
      have : c ∈ flat es := List.mem_flatMap.2 ⟨e, he, hc⟩
      obtain ⟨i, hi, rfl⟩ := List.mem_iff_getElem.1 this
      exact h i _ (List.getElem?_eq_getElem hi)
    cases e with
    | agg cs => simp only [AV.ok]; exact okL_iff.2 hmem
    | _ => exact hmem _ (by simp [AV.cells])
  have listOk : ∀ (cs : List AV) (vs : Array Value), cs.length = vs.size → (∀ (i : Nat) (c : AV) (v : Value), cs[i]? = some c → vs[i]? = some v → c.ok n m = true) → okL n m cs = true := by
    intro cs vs hl h
    rw [okL_iff]
    intro c hc
    obtain ⟨i, hi, rfl⟩ := List.mem_iff_getElem.1 hc
    exact h i _ vs[i] (List.getElem?_eq_getElem hi) (by simp [(by omega : i < vs.size)])
  induction h with
  | ptr l off B hl => simpa [AV.ok] using hr l B hl
  | msl l off len sz B cap z h1 h2 h3 h4 => simpa [AV.ok] using hr l B h1
  | map l B hl => simpa [AV.ok] using hr l B hl
  | rptr v b o cv h1 h2 ih =>
    simp only [AV.ok]
    cases v with
    | agg cs =>
      simp only [AV.ok]
      rw [okL_iff]
      intro c hc
      obtain ⟨i, hi, rfl⟩ := List.mem_iff_getElem.1 hc
      exact ih i _ (by simp [AV.cells, hi])
    | _ => exact ih 0 _ (by simp [AV.cells])
  | slnil t ht =>
    cases t with
    | own k => obtain ⟨p, hp⟩ := ht; simp [AV.ok, tokOk, okL, hd k p hp]
    | _ => simp [AV.ok, tokOk, okL]
  | slz t ad ht =>
    cases t with
    | own k => obtain ⟨p, hp⟩ := ht; simp [AV.ok, tokOk, okL, hd k p hp]
    | _ => simp [AV.ok, tokOk, okL]
  | sl t es b o cap sz cv h1 h2 h3 h4 h5 ih =>
    simp only [AV.ok, Bool.and_eq_true]
    refine ⟨?_, flatOk es ih⟩
    cases t with
    | own k => obtain ⟨nn, s, q1, _⟩ := h5; simpa [tokOk] using hd k _ q1
    | _ => rfl
  | fn f xs ys vs us h1 h2 _ _ ih1 ih2 => simp only [AV.ok, Bool.and_eq_true]; exact ⟨listOk xs vs h1 ih1, listOk ys us h2 ih2⟩
  | agg cs vs h1 h2 _ ih => simp only [AV.ok]; exact listOk cs vs h1 ih
  | tup cs vs h1 _ ih => simp only [AV.ok]; exact listOk cs vs h1 ih
  | _ => rfl

def okBlk (n m : Nat) : Blk → Bool
  | .cells _ vs => okL n m vs
  | .map es => es.all fun e => e.1.ok n m && e.2.ok n m
  | .gone => true

/-- What a call made and nobody names any more is forgotten. -/
theorem Inv.truncate {G0 G1 : Gh} {w0 w1 : World} {st0 st1 st : St} (h0 : Inv G0 w0 st0) (h1 : Inv G1 w1 st1) {Ga : Gh} {wa : World} {n m : Nat} (hE : Ext Ga wa G1 w1 n m) (hn : n ≤ st.heap.length) (hm : m ≤ st.toks.length) (hl0 : st0.heap.length = st.heap.length) (hl1 : st0.toks.length = st.toks.length) {g : List Blk} {gt : List (Nat × Nat)} (hh : st1.heap = st.heap ++ g) (ht : st1.toks = st.toks ++ gt)
    (hok : ∀ (l : Nat) (b : Blk), st.heap[l]? = some b → st0.heap[l]? = some b ∨ okBlk st.heap.length st.toks.length b = true) :
    Inv (G1.restrict st.heap.length st.toks.length) w1 st ∧ Ext Ga wa (G1.restrict st.heap.length st.toks.length) w1 n m := by
  have hrho : ∀ l B, (G1.restrict st.heap.length st.toks.length).rho l = some B → l < st.heap.length ∧ G1.rho l = some B := fun l B hl => by
    simp only [Gh.restrict] at hl
    split at hl
    · exact ⟨by assumption, hl⟩
    · cases hl
  have htau : ∀ k i, (G1.restrict st.heap.length st.toks.length).tau k = some i → k < st.toks.length ∧ G1.tau k = some i := fun k i hk => by
    simp only [Gh.restrict] at hk
    split at hk
    · exact ⟨by assumption, hk⟩
    · cases hk
  constructor
  · exact {
      dom := fun l B hl => (hrho l B hl).1
      img := fun l B hl => h1.img l B (hrho l B hl).2
      inj := fun l l' B hl hl' => h1.inj l l' B (hrho l B hl).2 (hrho l' B hl').2
      blk := fun l b hl => by
        have hlt := (List.getElem?_eq_some_iff.1 hl).1
        obtain ⟨B, q1, q2⟩ := h1.blk l b (by rw [hh, List.getElem?_append_left hlt]; exact hl)
        refine ⟨B, by simp [Gh.restrict, hlt, q1], ?_⟩
        rcases hok l b hl with hold | hb
        · obtain ⟨B0, p1, p2⟩ := h0.blk l b hold
          cases b with
          | cells fz vs =>
            obtain ⟨c0, e0, f0, r1, r2, r3, r4⟩ := p2
            obtain ⟨c, e, f, s1, s2, s3, s4⟩ := q2
            refine ⟨c, e, f, s1, s2, fun i v x hi hx => ⟨(s3 i v x hi hx).1.restrict ?_, (s3 i v x hi hx).2⟩, s4⟩
            have hil := (List.getElem?_eq_some_iff.1 hi).1
            have : i < c0.size := by omega
            have := (r3 i v c0[i] hi (by simp [this])).1.isOk h0.dom h0.tdom'
            rwa [hl0, hl1] at this
          | map es =>
            obtain ⟨cs0, k0, r1, p0, t1, t2, t3, t4, t5⟩ := p2
            obtain ⟨cs, k, s1, p, u1, u2, u3, u4, u5⟩ := q2
            refine ⟨cs, k, s1, p, u1, u2, fun i e c hi hc => ?_, u4, u5⟩
            have hmem : e ∈ p0 := (t1.trans u1.symm).mem_iff.2 (List.mem_of_getElem? hi)
            obtain ⟨j, hj, rfl⟩ := List.mem_iff_getElem.1 hmem
            have hjc : j < cs0.size := by omega
            have hv := t3 j _ cs0[j] (List.getElem?_eq_getElem hj) (by simp [hjc])
            have o1 := hv.1.isOk h0.dom h0.tdom'
            have o2 := hv.2.isOk h0.dom h0.tdom'
            rw [hl0, hl1] at o1 o2
            exact ⟨(u3 i _ c hi hc).1.restrict o1, (u3 i _ c hi hc).2.restrict o2⟩
          | gone => trivial
        · cases b with
          | cells fz vs =>
            obtain ⟨c, e, f, s1, s2, s3, s4⟩ := q2
            exact ⟨c, e, f, s1, s2, fun i v x hi hx => ⟨(s3 i v x hi hx).1.restrict (okL_get (by simpa [okBlk] using hb) hi), (s3 i v x hi hx).2⟩, s4⟩
          | map es =>
            obtain ⟨cs, k, s1, p, u1, u2, u3, u4, u5⟩ := q2
            refine ⟨cs, k, s1, p, u1, u2, fun i e c hi hc => ?_, u4, u5⟩
            have hmem : e ∈ es := u1.mem_iff.1 (List.mem_of_getElem? hi)
            simp only [okBlk, List.all_eq_true, Bool.and_eq_true] at hb
            exact ⟨(u3 i _ c hi hc).1.restrict (hb e hmem).1, (u3 i _ c hi hc).2.restrict (hb e hmem).2⟩
          | gone => trivial
      tl := fun k => by
        simp only [Gh.restrict]
        split
        · rename_i hk
          rw [h1.tl, ht, List.getElem?_append_left hk]
        · rename_i hk
          rw [List.getElem?_eq_none (Nat.le_of_not_lt hk)]
      tdom := fun k i hk => by
        obtain ⟨q1, q2⟩ := htau k i hk
        obtain ⟨a1, a2, a3, a4, a5⟩ := h1.tdom k i q2
        refine ⟨q1, a2, a3, a4, fun l hl => ?_⟩
        obtain ⟨r1, r2⟩ := hrho l _ hl
        obtain ⟨vs, hvs⟩ := a5 l r2
        rw [hh, List.getElem?_append_left r1] at hvs
        exact ⟨vs, hvs⟩
      tinj := fun k k' i i' hk hk' => h1.tinj k k' i i' (htau k i hk).2 (htau k' i' hk').2
      cells := h1.cells
      below := h1.below
      bsz := h1.bsz }
  · exact {
      rho := fun l hl => by simp only [Gh.restrict, if_pos (Nat.lt_of_lt_of_le hl hn)]; exact hE.rho l hl
      imm := hE.imm
      cell := hE.cell
      size := hE.size
      tok := fun k p hk hp => by
        obtain ⟨p', q1, q2, q3, q4⟩ := hE.tok k p hk hp
        have hk' := Nat.lt_of_lt_of_le hk hm
        exact ⟨p', by simp only [Gh.restrict, if_pos hk']; exact q1, q2, q3, fun e => by simp only [Gh.restrict, if_pos hk']; exact q4 e⟩
      heap := hE.heap
      base := hE.base
      w0 := hE.w0 }


end Go.Am

/- Calls that only reckon, of rows that may be written again behind them. -/
import Derived.Test.YtbmcgfdopaaiiaaZAmStat2
set_option linter.all false
namespace Go.Am
open Go.RowKit (Below)

/-- What sort of cell a value is, if it tells. -/
def tagA : AV → Option (Option IntKind)
  | .int k _ => some (some k)
  | .bool _ => some none
  | _ => none
def clash (c v : AV) : Bool :=
  match tagA c, tagA v with
  | some a, some b => decide (a ≠ b)
  | _, _ => false
theorem clash_rel {G G' : Gh} {w w' : World} {c v : AV} {x : Value} (h : clash c v = true) (hc : VRel G w c x) (hv : VRel G' w' v x) : False := by
  cases c <;> simp [clash, tagA] at h
  · cases v <;> simp at h
    cases hc
    cases hv
  · cases v <;> simp at h
    · cases hc
      cases hv
    · cases hc
      cases hv
      exact h rfl
mutual
/-- No row of this value begins with a cell that may be one of these. -/
def apartV (vs : List AV) : AV → Bool
  | .rptr v => v.cells.head?.all (fun c => vs.all (clash c)) && apartV vs v
  | .sl _ es => (flat es).head?.all (fun c => vs.all (clash c)) && apartL vs es
  | .fn _ xs ys => apartL vs xs && apartL vs ys
  | .agg cs => apartL vs cs
  | .tup cs => apartL vs cs
  | .any => true
  | .bool _ => true
  | .int _ _ => true
  | .str _ => true
  | .nilp => true
  | .ptr _ _ => true
  | .msl _ _ _ _ => true
  | .map _ => true
  | .nilfn => true
def apartL (vs : List AV) : List AV → Bool
  | [] => true
  | v :: l => apartV vs v && apartL vs l
end
theorem apartL_iff {vs l : List AV} : apartL vs l = true ↔ ∀ v ∈ l, apartV vs v = true := by
  induction l with
  | nil => simp [apartL]
  | cons v l ih => simp [apartL, ih]
theorem apartL_get {vs l : List AV} (h : apartL vs l = true) {i : Nat} {c : AV} (hc : l[i]? = some c) : apartV vs c = true := apartL_iff.1 h c (List.mem_of_getElem? hc)
theorem apart_cells {vs : List AV} {v : AV} (h : apartV vs v = true) {j : Nat} {c : AV} (hc : v.cells[j]? = some c) : apartV vs c = true := by
  cases v with
  | agg cs => simp only [apartV] at h; exact apartL_get h hc
  | _ =>
    have := List.mem_of_getElem? hc
    simp [AV.cells] at this
    subst this
    exact h
theorem apart_flat {vs es : List AV} (h : apartL vs es = true) {j : Nat} {c : AV} (hc : (flat es)[j]? = some c) : apartV vs c = true := by
  have := List.mem_of_getElem? hc
  simp only [flat, List.mem_flatMap] at this
  obtain ⟨e, he, hce⟩ := this
  obtain ⟨i, hi, rfl⟩ := List.mem_iff_getElem.1 hce
  exact apart_cells (apartL_iff.1 h e he) (List.getElem?_eq_getElem hi)

/-- What was handed back by a call that knew no block that may be written, and borrowed the cells S. -/
theorem VRel.leave {G2 G3 : Gh} {w : World} {S : Nat → Nat → Prop} {vs : List AV} (h0 : ∀ l, G2.rho l = none) (h1 : ∀ k, G2.tl k = none) (hc : ∀ b o, G2.imm b o → ¬ S b o → G3.imm b o) (hdn : ∀ b o j, S b (o + j) → S b o)
    (hS : ∀ b o, S b o → ∃ v ∈ vs, ∃ G w' x, w.cell? ⟨b, o, none⟩ = some x ∧ VRel G w' v x) {v : AV} {x : Value} (h : VRel G2 w v x) (ha : (∃ b o, S b o) → apartV vs v = true) : VRel G3 w v x := by
  have head : ∀ (cs : List AV) (b o : Nat) (cv : Nat → Value), (∀ (j : Nat) (c : AV), cs[j]? = some c → G2.imm b (o + j) ∧ w.cell? ⟨b, o + j, none⟩ = some (cv j) ∧ (cv j).oneCell' = true) → (∀ (j : Nat) (c : AV), cs[j]? = some c → VRel G2 w c (cv j)) →
      ((∃ b o, S b o) → cs.head?.all (fun c => vs.all (clash c)) = true) → ∀ (j : Nat) (c : AV), cs[j]? = some c → G3.imm b (o + j) := by
    intro cs b o cv q1 q2 q3 j c hj
    refine hc _ _ (q1 j c hj).1 fun hs => ?_
    have hs0 := hdn _ _ _ hs
    have hlt := (List.getElem?_eq_some_iff.1 hj).1
    cases cs with
    | nil => simp at hlt
    | cons c0 cs =>
      obtain ⟨v', hv', G, w', y, e1, e2⟩ := hS b o hs0
      have := (q1 0 c0 rfl).2.1
      rw [Nat.add_zero, e1] at this
      injection this with this
      subst this
      have := q3 ⟨_, _, hs0⟩
      simp only [List.head?_cons, Option.all_some, List.all_eq_true] at this
      exact clash_rel (this v' hv') (q2 0 c0 rfl) e2
  induction h with
  | any v => exact .any v
  | bool b => exact .bool b
  | int k n => exact .int k n
  | str s => exact .str s
  | nilp => exact .nilp
  | ptr l off B hl => rw [h0] at hl; cases hl
  | rptr v b o cv q1 q2 ih =>
    have h3 := head v.cells b o cv q1 q2 (fun e => by have := ha e; simp only [apartV, Bool.and_eq_true] at this; exact this.1)
    exact .rptr v b o cv (fun j c hj => ⟨h3 j c hj, (q1 j c hj).2⟩) (fun j c hj => ih j c hj fun e => by
      have := ha e
      simp only [apartV, Bool.and_eq_true] at this
      exact apart_cells this.2 hj)
  | slnil t ht =>
    refine .slnil t ?_
    cases t with
    | own k => obtain ⟨p, hp⟩ := ht; rw [h1] at hp; cases hp
    | _ => trivial
  | slz t a ht =>
    refine .slz t a ?_
    cases t with
    | own k => obtain ⟨p, hp⟩ := ht; rw [h1] at hp; cases hp
    | _ => trivial
  | sl t es b o cap sz cv q0 q1 q2 q3 q4 ih =>
    have h3 := head (flat es) b o cv q2 q3 (fun e => by have := ha e; simp only [apartV, Bool.and_eq_true] at this; exact this.1)
    refine .sl t es b o cap sz cv q0 q1 (fun j c hj => ⟨h3 j c hj, (q2 j c hj).2⟩) (fun j c hj => ih j c hj fun e => ?_) ?_
    · have := ha e
      simp only [apartV, Bool.and_eq_true] at this
      exact apart_flat this.2 hj
    · cases t with
      | any => trivial
      | clip => exact q4
      | own k => obtain ⟨n, s, hp, _⟩ := q4; rw [h1] at hp; cases hp
  | msl l off len sz B cap z hl => rw [h0] at hl; cases hl
  | mapnil => exact .mapnil
  | map l B hl => rw [h0] at hl; cases hl
  | fn f xs ys vs us q1 q2 _ _ ih1 ih2 =>
    exact .fn f xs ys vs us q1 q2 (fun i c v hc' hv => ih1 i c v hc' hv fun e => by
      have := ha e
      simp only [apartV, Bool.and_eq_true] at this
      exact apartL_get this.1 hc') (fun i c v hc' hv => ih2 i c v hc' hv fun e => by
      have := ha e
      simp only [apartV, Bool.and_eq_true] at this
      exact apartL_get this.2 hc')
  | nilfn => exact .nilfn
  | agg cs vs q1 q2 _ ih => exact .agg cs vs q1 q2 fun i c v hc' hv => ih i c v hc' hv fun e => apartL_get (by simpa only [apartV] using ha e) hc'
  | tup cs vs q1 _ ih => exact .tup cs vs q1 fun i c v hc' hv => ih i c v hc' hv fun e => apartL_get (by simpa only [apartV] using ha e) hc'

/-- An argument, for a while as a value. -/
def lendA (st : St) : AV → Option AV
  | .msl l off len sz => match st.heap[l]? with
    | some (.cells _ vs) => if off + len * sz.getD 1 ≤ vs.length ∧ 0 < sz.getD 1 ∧ okL 0 0 vs = true then some (.sl .any (chunk sz len (vs.drop off))) else none
    | _ => none
  | v => if v.norm.ok 0 0 = true then some v.norm else none
def lends (st : St) : List AV → Option (List AV)
  | [] => some []
  | v :: vs => (lendA st v).bind fun v' => (lends st vs).map fun vs' => v' :: vs'
def lendVs (st : St) (args : List AV) : List AV := args.flatMap fun a => match a with
  | .msl l _ _ _ => match st.heap[l]? with
    | some (.cells _ vs) => vs
    | _ => []
  | _ => []
theorem lends_get {st : St} : ∀ {args as : List AV}, lends st args = some as → args.length = as.length ∧ ∀ (i : Nat) (a a' : AV), args[i]? = some a → as[i]? = some a' → lendA st a = some a'
  | [], as, h => by
    simp [lends] at h
    subst h
    simp
  | v :: vs, as, h => by
    simp only [lends, Option.bind_eq_some_iff, Option.map_eq_some_iff] at h
    obtain ⟨v', h1, vs', h2, rfl⟩ := h
    obtain ⟨q1, q2⟩ := lends_get h2
    refine ⟨by simp [q1], fun i a a' ha ha' => ?_⟩
    cases i with
    | zero => simp at ha ha'; subst ha; subst ha'; exact h1
    | succ i => exact q2 i a a' (by simpa using ha) (by simpa using ha')

theorem ASpec.lend {P : Program} {f : Nat} {args bs : List AV} {st : St} {X : AV} (hl : lends st args = some bs) (h : ∀ st1, ASpec P f bs st1 fun v s => v = X ∧ s = st1) (ha : apartV (lendVs st args) X = true) : ASpec P f args st fun v s => v = X ∧ s = st := by
  have h0 := h ⟨[], []⟩
  refine ⟨h0.1, fun G w ys hI hr => ?_⟩
  obtain ⟨S, hS⟩ : ∃ S : Nat → Nat → Prop, S = fun b o => ∃ l off len sz fz vs, AV.msl l off len sz ∈ args ∧ st.heap[l]? = some (.cells fz vs) ∧ G.rho l = some b ∧ o < vs.length := ⟨_, rfl⟩
  have hScell : ∀ b o, S b o → ∃ v ∈ lendVs st args, ∃ x, w.cell? ⟨b, o, none⟩ = some x ∧ VRel G w v x := by
    intro b o hs
    rw [hS] at hs
    obtain ⟨l, off, len, sz, fz, vs, m1, m2, m3, m4⟩ := hs
    obtain ⟨B, p1, p2⟩ := hI.blk l _ m2
    rw [m3] at p1
    injection p1 with p1
    subst p1
    obtain ⟨u, u1, u2, _⟩ := p2.cellsAt o vs[o] (List.getElem?_eq_getElem m4)
    rw [Nat.zero_add] at u1
    refine ⟨vs[o], ?_, u, u1, u2⟩
    refine List.mem_flatMap.2 ⟨_, m1, ?_⟩
    simp only [m2]
    exact List.getElem_mem m4
  let G1 : Gh := { rho := fun _ => none, imm := fun b o => G.imm b o ∨ S b o, tl := fun _ => none, tau := fun _ => none, base := w.heap.size, w0 := w }
  have hI1 : Inv G1 w ⟨[], []⟩ := {
    dom := fun l B h => by cases h
    img := fun l B h => by cases h
    inj := fun l l' B h => by cases h
    blk := fun l b h => by simp at h
    tl := fun k => by simp [G1]
    tdom := fun k i h => by cases h
    tinj := fun k k' i i' h => by cases h
    cells := fun b o h => h.elim (hI.cells b o) fun hs => by obtain ⟨_, _, x, hx, _⟩ := hScell b o hs; exact ⟨x, hx⟩
    below := Below.refl _ _
    bsz := Nat.le_refl _ }
  have free : ∀ {v : AV} {x : Value}, VRel G w v x → v.ok 0 0 = true → VRel G1 w v x := fun hv ho =>
    VRel.leave (G2 := G.restrict 0 0) (G3 := G1) (h := hv.restrict ho) (S := fun _ _ => False) (vs := []) (fun l => by simp [Gh.restrict]) (fun k => by simp [Gh.restrict]) (fun b o hi _ => .inl hi) (fun _ _ _ h => h) (fun _ _ h => h.elim) (fun ⟨_, _, h⟩ => h.elim)
  obtain ⟨g1, g2⟩ := lends_get hl
  have hr1 : ListRel G1 w bs ys.toList := by
    refine ⟨by rw [← g1]; exact hr.1, fun i a' y ha' hy => ?_⟩
    have hlt : i < args.length := by rw [g1]; exact (List.getElem?_eq_some_iff.1 ha').1
    have haa := g2 i args[i] a' (List.getElem?_eq_getElem hlt) ha'
    have hv := hr.2 i args[i] y (List.getElem?_eq_getElem hlt) hy
    have hmem : args[i] ∈ args := List.getElem_mem hlt
    generalize args[i] = a at haa hv hmem
    have other : (if a.norm.ok 0 0 = true then some a.norm else none) = some a' → VRel G1 w a' y := fun h => by
      split at h
      · rename_i hok
        injection h with h
        subst h
        exact free hv.norm hok
      · cases h
    cases a with
    | msl l off len sz =>
      simp only [lendA] at haa
      split at haa
      · rename_i fz vs hlk
        split at haa
        · rename_i hc
          injection haa with haa
          subst haa
          cases hv with
          | msl _ _ _ _ B cap z m1 m2 m3 m4 =>
            obtain ⟨B', p1, p2⟩ := hI.blk l _ hlk
            rw [m1] at p1
            injection p1 with p1
            subst p1
            have hca := p2.cellsAt
            obtain ⟨k1, k2⟩ := chunk_flat (sz := sz) len (vs.drop off) (by simp; omega) (fun _ x hx => by
              obtain ⟨i, hi, rfl⟩ := List.mem_iff_getElem.1 (List.mem_of_mem_drop hx)
              obtain ⟨u, _, v1, v2⟩ := hca i _ (List.getElem?_eq_getElem hi)
              exact scalar_cells v1 v2)
            have hcl : (chunk sz len (vs.drop off)).length = len := chunk_length _ _ _
            have key : ∀ (j : Nat) (c : AV), (flat (chunk sz len (vs.drop off)))[j]? = some c → vs[off + j]? = some c := fun j c hj => by
              rw [k2, List.getElem?_take, List.getElem?_drop] at hj
              split at hj
              · exact hj
              · cases hj
            have := VRel.sl (G := G1) (w := w) .any (chunk sz len (vs.drop off)) B off cap (sz.getD 1) (fun j => (w.cell? ⟨B, off + j, none⟩).getD undef) k1 (by rw [hcl]; exact m2)
              (fun j c hj => by
                have hj' := key j c hj
                obtain ⟨u, u1, u2, u3⟩ := hca _ c hj'
                rw [Nat.zero_add] at u1
                exact ⟨.inr (by rw [hS]; exact ⟨l, off, len, sz, fz, vs, hmem, hlk, m1, (List.getElem?_eq_some_iff.1 hj').1⟩), by simp [u1], by simpa [u1] using u3⟩)
              (fun j c hj => by
                have hj' := key j c hj
                obtain ⟨u, u1, u2, u3⟩ := hca _ c hj'
                rw [Nat.zero_add] at u1
                have := free u2 (okL_get hc.2.2 hj')
                simpa [u1] using this) trivial
            rw [hcl] at this
            exact this
        · cases haa
      · cases haa
    | _ => exact other haa
  refine (h0.2 G1 w ys hI1 hr1).mono fun e w' he => ?_
  cases e with
  | outgrown => exact he
  | panicked c => exact he
  | returned y =>
    obtain ⟨G2, v, s2, ⟨hX, rfl⟩, i2, e2, v2, _, _⟩ := he
    rw [hX] at v2
    have hb := i2.below
    rw [e2.base, e2.w0] at hb
    change Below w.heap.size w w' at hb
    obtain ⟨G3, hG3⟩ : ∃ G3 : Gh, G3 = { G with imm := fun b o => G.imm b o ∨ (w.heap.size ≤ b ∧ G2.imm b o) } := ⟨_, rfl⟩
    have i3 : ∀ b o, b < w.heap.size → G3.imm b o → G.imm b o := fun b o hlt hi => by
      rw [hG3] at hi
      rcases hi with hi | hi
      · exact hi
      · omega
    have e3 : Ext G w G3 w' st.heap.length st.toks.length := {
      rho := fun _ _ => by rw [hG3]
      imm := fun b o hi => by rw [hG3]; exact .inl hi
      cell := fun b o hi => cell_of_block (hb.block b (hI.imm_lt hi)) o
      size := fun b z hz => (bsize_of_block (hb.block b (bsize_lt hz))).trans hz
      tok := fun _ p _ hp => ⟨p, by rw [hG3]; exact hp, rfl, Nat.le_refl _, fun _ => by rw [hG3]⟩
      heap := hb.size
      base := by rw [hG3]
      w0 := by rw [hG3]
      immB := fun b o hi hlt => i3 b o (Nat.lt_of_lt_of_le hlt hI.bsz) hi }
    refine ⟨G3, X, st, ⟨rfl, rfl⟩, ?_, e3, ?_, Nat.le_refl _, Nat.le_refl _⟩
    · have r1 : G3.rho = G.rho := by rw [hG3]
      have r2 : G3.tl = G.tl := by rw [hG3]
      have r3 : G3.tau = G.tau := by rw [hG3]
      have r4 : G3.base = G.base := by rw [hG3]
      have r5 : G3.w0 = G.w0 := by rw [hG3]
      exact {
        dom := by rw [r1]; exact hI.dom
        img := fun l B h => by
          rw [r1] at h
          have := hI.img l B h
          rw [r4]
          exact ⟨this.1, Nat.lt_of_lt_of_le this.2 hb.size⟩
        inj := by rw [r1]; exact hI.inj
        blk := fun l b h => by
          obtain ⟨B, q1, q2⟩ := hI.blk l b h
          have hlt := (hI.img l B q1).2
          exact ⟨B, by rw [r1]; exact q1, q2.keep (fun v x hv => hv.inv hI e3) (hb.block B hlt) (fun o hi => by rw [hG3]; exact .inl hi) (fun _ hn o hi => hn o (i3 B o hlt hi))⟩
        tl := by rw [r2]; exact hI.tl
        tdom := fun k i h => by
          rw [r3] at h
          obtain ⟨a1, a2, ⟨z, a3, a4, a5⟩, a6, a7⟩ := hI.tdom k i h
          have hlt := bsize_lt a3
          refine ⟨a1, by rw [r4]; exact a2, ⟨z, (bsize_of_block (hb.block _ hlt)).trans a3, a4, fun p hp hz => (frozen_of_block (hb.block _ hlt) p).trans (a5 p hp hz)⟩, fun o ho hi => a6 o ho (i3 _ o hlt hi), by rw [r1]; exact a7⟩
        tinj := by rw [r3]; exact hI.tinj
        cells := fun b o hi => by
          rw [hG3] at hi
          rcases hi with hi | hi
          · obtain ⟨x, hx⟩ := hI.cells b o hi
            exact ⟨x, by rw [cell_of_block (hb.block b (cell_lt hx))]; exact hx⟩
          · exact i2.cells b o hi.2
        below := by rw [r4, r5]; exact hI.below.trans (hb.mono hI.bsz)
        bsz := by rw [r4]; exact Nat.le_trans hI.bsz hb.size }
    · refine v2.leave (S := S) (vs := lendVs st args) (fun l => ?_) (fun k => ?_) (fun b o hi hs => ?_) (fun b o j hs => ?_) (fun b o hs => ?_) (fun _ => ha)
      · cases hx : G2.rho l with
        | none => rfl
        | some B => have := i2.dom l B hx; simp at this
      · rw [i2.tl]; rfl
      · rw [hG3]
        rcases Nat.lt_or_ge b w.heap.size with hlt | hge
        · rcases e2.immB b o hi hlt with q | q
          · exact .inl q
          · exact absurd q hs
        · exact .inr ⟨hge, hi⟩
      · rw [hS] at hs ⊢
        obtain ⟨l, off, len, sz, fz, vs, m1, m2, m3, m4⟩ := hs
        exact ⟨l, off, len, sz, fz, vs, m1, m2, m3, by omega⟩
      · obtain ⟨v, hv, x, hx, hvx⟩ := hScell b o hs
        exact ⟨v, hv, G, w, x, by rw [cell_of_block (hb.block b (cell_lt hx))]; exact hx, hvx⟩
end Go.Am

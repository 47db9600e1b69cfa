/- The abstract machine's operations are sound: new variables, make, copy, append. -/
import Derived.Test.YtbmcgfdopaaiiaaZAmSound6
set_option linter.all false
namespace Go.Am

theorem alloc_sound {P : Program} {G : Gh} {w : World} {st : St} {t : TypeId} {z : AV} (hI : Inv G w st) (hz : zeroA P t = some z) :
    SOk P G w st (Instr.alloc t true (.tuple #[])) (.ptr st.heap.length 0) { st with heap := st.heap ++ [.cells false z.cells] } := by
  obtain ⟨i, zv, q1, q2, q3, q4, q5⟩ := zeroA_sound (G := G) (w := w) hz
  obtain ⟨w', G', r1, r2, r3, r4⟩ := newVar_sound (P := P) (t := t) hI q3 q5 q4
  exact ⟨_, w', G', by simp [Instr.alloc, zeroValue, typeInfo, q1, q2, r1], r2, r3, r4⟩

theorem box_sound {P : Program} {G : Gh} {w : World} {st : St} {t : TypeId} {sz : Option Nat} {v : AV} {y : Value} (hI : Inv G w st) (hv : VRel G w v y) (hs : shaped sz v = true) :
    SOk P G w st (Instr.box t y) (.ptr st.heap.length 0) { st with heap := st.heap ++ [.cells false v.cells] } := by
  obtain ⟨n1, n2, _⟩ := shaped_facts hs
  obtain ⟨w', G', r1, r2, r3, r4⟩ := newVar_sound (P := P) (t := t) hI hv n1 n2
  exact ⟨_, w', G', by simp [Instr.box, r1], r2, r3, r4⟩

/-- A box that nobody writes. -/
theorem boxR_sound {P : Program} {G : Gh} {w : World} {st : St} {t : TypeId} {sz : Option Nat} {v : AV} {y : Value} (hI : Inv G w st) (hv : VRel G w v y) (hs : shaped sz v = true) :
    SOk P G w st (Instr.box t y) (.rptr v) st := by
  obtain ⟨n1, n2, _⟩ := shaped_facts hs
  obtain ⟨q1, q2⟩ := hv.cells n1 n2
  obtain ⟨i1, e1, r1⟩ := newImm' hI (us := y.cells) (e := t) (fr := (0, 0)) (es := [v]) (sz := v.cells.length) (tk := .any) 1 (by simp) (by simp) (by simp [flat]; omega) (fun i c u hc hu => q2 i c u (by simpa [flat] using hc) hu) (.inl rfl)
  refine ⟨.pointer (some ⟨w.heap.size, 0, none⟩), _, _, by simp [Instr.box, newVar, newRow], i1, e1, ?_⟩
  generalize hz : Value.slice (some ⟨w.heap.size, 0, none⟩) [v].length 1 = z at r1
  cases r1 with
  | sl _ _ b o cap sz cv h1 h2 h3 h4 h5 =>
    injection hz with hz1 hz2 hz3
    injection hz1 with hz1
    injection hz1 with hz1 hz4
    subst hz1; subst hz4
    exact .rptr v _ _ cv (fun j c hj => h3 j c (by simpa [flat] using hj)) (fun j c hj => h4 j c (by simpa [flat] using hj))

theorem replicate_flatten_get {α : Type} (z : List α) : ∀ (n i : Nat), i < n * z.length → ((List.replicate n z).flatten)[i]? = z[i % z.length]?
  | 0, i, h => by simp at h
  | n + 1, i, h => by
    simp only [List.replicate_succ, List.flatten_cons]
    rcases Nat.lt_or_ge i z.length with hlt | hge
    · rw [List.getElem?_append_left hlt, Nat.mod_eq_of_lt hlt]
    · rw [List.getElem?_append_right hge, replicate_flatten_get z n (i - z.length) (by rw [Nat.succ_mul] at h; omega), ← Nat.mod_eq_sub_mod hge]

theorem mkslice_sound {P : Program} {G : Gh} {w : World} {st st' : St} {t e : TypeId} {sz : Option Nat} {z x1 x2 v : AV} {y1 y2 : Value} (hI : Inv G w st) (hu : P.underlying t = some (.slice e)) (hs : szOf P e = some sz) (hz : zeroA P e = some z) (hb : smallBytes P e = true) (hzl : z.cells.length = sz.getD 1)
    (h : evW (.mkslice sz z.cells) [x1, x2] st = some (v, st')) (h1 : VRel G w x1 y1) (h2 : VRel G w x2 y2) : SOk P G w st (Instr.makeSlice t y1 y2) v st' := by
  cases x1 <;> cases x2 <;> simp only [evW] at h <;> first | (cases h; done) | skip
  rename_i k1 n k2 c
  split at h
  · rename_i hc
    injection h with h
    injection h with e1 e2
    subst e1; subst e2
    cases h1; cases h2
    obtain ⟨i, zv, q1, q2, q3, q4, q5⟩ := zeroA_sound (G := G) (w := w) hz
    obtain ⟨i', hi', hsz⟩ := szOf_size hs
    rw [q1] at hi'
    injection hi' with hi'
    subst hi'
    obtain ⟨_, _, hpos⟩ := szOf_run hs w
    have hbytes : 0 < i.bytes ∧ i.bytes ≤ 1024 := by
      simp only [smallBytes, q1, Bool.and_eq_true, decide_eq_true_eq] at hb
      exact hb
    obtain ⟨hc0, hc1, hc2⟩ := hc
    have hlim : c ≤ 2147483648 := hc2
    have hrun := run_make (P := P) w t e i zv hu q1 q2 k1 k2 n c hc0 hc1 (by
      have : (i.bytes : Int) * c ≤ 1024 * 2147483648 := Int.mul_le_mul (by omega) hlim (by omega) (by omega)
      omega) (by omega)
    obtain ⟨k1, k2⟩ := q3.cells q5 q4
    have hfl : ((List.replicate n.toNat z.cells).flatten).length = n.toNat * z.cells.length := by simp
    have hle : n.toNat * z.cells.length ≤ c.toNat * i.size := by
      rw [hzl, hsz]; exact Nat.mul_le_mul_right _ (by omega)
    obtain ⟨i1, e1⟩ := hI.allocMut (.cells (madeCells zv.cells (c.toNat * i.size)) e) (.cells false (List.replicate n.toNat z.cells).flatten) (fun G' w' h1 h2 h3 =>
      ⟨_, e, (0, 0), h2, by rw [hfl, size_madeCells]; exact hle, fun j v x hj hx => by
        have hlt : j < n.toNat * z.cells.length := by rw [← hfl]; exact (List.getElem?_eq_some_iff.1 hj).1
        rw [replicate_flatten_get _ _ _ hlt] at hj
        have hmod : j % z.cells.length < z.cells.length := Nat.mod_lt _ (by omega)
        have hmod' : j % zv.cells.size < zv.cells.size := by rw [← k1]; exact hmod
        have hx' : x = zv.cells[j % zv.cells.size]! := by
          have hj2 : j < c.toNat * i.size := by omega
          simp [madeCells, hj2] at hx
          exact hx.symm
        rw [hx']
        have := k2 (j % z.cells.length) v (zv.cells[j % zv.cells.size]!) hj (by rw [k1]; simp [hmod'])
        exact ⟨h1 _ _ this.1, this.2⟩, h3, fun o _ => by simp [World.frozen?, h2]⟩)
    refine ⟨_, _, _, hrun, i1, e1, .msl _ _ _ _ w.heap.size c.toNat (c.toNat * i.size) (by simp [Gh.addRho]) (by omega) (by simp only [bsize, alloc_new, size_madeCells]) (by rw [hsz]; omega)⟩
  · cases h

/-! What a builtin reads of its source. -/

theorem chunk_length (sz : Option Nat) : ∀ (n : Nat) (cs : List AV), (chunk sz n cs).length = n
  | 0, _ => rfl
  | n + 1, cs => by simp [chunk, chunk_length sz n]

theorem mkElem_cells {sz : Option Nat} {cs : List AV} (h : cs.length = sz.getD 1) (hone : sz = none → ∀ c ∈ cs, c.cells = [c]) : (mkElem sz cs).cells = cs := by
  cases sz with
  | some k => rfl
  | none =>
    match cs, h with
    | [c], _ => simp [mkElem, hone rfl c (by simp)]

theorem chunk_flat {sz : Option Nat} : ∀ (n : Nat) (cs : List AV), n * sz.getD 1 ≤ cs.length → (sz = none → ∀ c ∈ cs, c.cells = [c]) → (∀ e ∈ chunk sz n cs, e.cells.length = sz.getD 1) ∧ flat (chunk sz n cs) = cs.take (n * sz.getD 1)
  | 0, cs, _, _ => ⟨by simp [chunk], by simp [chunk, flat]⟩
  | n + 1, cs, h, hone => by
    have hs : (n + 1) * sz.getD 1 = n * sz.getD 1 + sz.getD 1 := Nat.succ_mul _ _
    obtain ⟨q1, q2⟩ := chunk_flat n (cs.drop (sz.getD 1)) (by simp; omega) (fun e c hc => hone e c (List.mem_of_mem_drop hc))
    have hm := mkElem_cells (sz := sz) (cs := cs.take (sz.getD 1)) (by simp; omega) (fun e c hc => hone e c (List.mem_of_mem_take hc))
    refine ⟨fun e he => ?_, ?_⟩
    · simp only [chunk, List.mem_cons] at he
      rcases he with rfl | he
      · rw [hm]; simp; omega
      · exact q1 e he
    · simp only [chunk, flat, List.flatMap_cons] at q2 ⊢
      rw [q2, hm, hs, Nat.add_comm, List.take_add]

theorem scalar_cells {G : Gh} {w : World} {c : AV} {u : Value} (h : VRel G w c u) (h1 : u.oneCell' = true) : c.cells = [c] := by
  cases h <;> first | rfl | (simp [Value.oneCell'] at h1)

theorem src_sound {P : Program} {G : Gh} {w : World} {st : St} {sz : Option Nat} {x : AV} {y : Value} {es : List AV} (hI : Inv G w st) (hx : VRel G w x y) (h : srcEs sz st x = some es) :
    (∀ e ∈ es, e.cells.length = sz.getD 1) ∧ ∃ news : List Value, (∀ w' : World, (Builtin.lenOf y).run P w' = .ok es.length w') ∧
      (∀ (w' : World) k, k ≤ es.length → (∀ a, w'.cell? a = w.cell? a) → (Builtin.firstCells (sz.getD 1) k y).run P w' = .ok (news.take (k * sz.getD 1)).toArray w') ∧ news.length = es.length * sz.getD 1 ∧
      (∀ (i : Nat) (c : AV) (u : Value), (flat es)[i]? = some c → news[i]? = some u → VRel G w c u ∧ u.oneCell' = true) := by
  have mem : ∀ (b o cap : Nat) (es : List AV), (∀ e ∈ es, e.cells.length = sz.getD 1) → CellsAt G w b o (flat es) → ∃ news : List Value, (∀ w' : World, (Builtin.lenOf (.slice (some ⟨b, o, none⟩) es.length cap)).run P w' = .ok es.length w') ∧
      (∀ (w' : World) k, k ≤ es.length → (∀ a, w'.cell? a = w.cell? a) → (Builtin.firstCells (sz.getD 1) k (.slice (some ⟨b, o, none⟩) es.length cap)).run P w' = .ok (news.take (k * sz.getD 1)).toArray w') ∧ news.length = es.length * sz.getD 1 ∧
      (∀ (i : Nat) (c : AV) (u : Value), (flat es)[i]? = some c → news[i]? = some u → VRel G w c u ∧ u.oneCell' = true) := by
    intro b o cap es hes hc
    obtain ⟨us, u1, u2, u3⟩ := hc.list
    rw [flat_length hes] at u1
    refine ⟨us, fun w' => rfl, fun w' k hk hw => ?_, u1, u3⟩
    have hle : k * sz.getD 1 ≤ us.length := by rw [u1]; exact Nat.mul_le_mul_right _ hk
    have := run_loadCells_at P (w := w') (b := b) (o := o) (us := us.take (k * sz.getD 1)) (fun j u hj => by
      rw [List.getElem?_take] at hj
      split at hj
      · rw [hw]; exact u2 j u hj
      · cases hj)
    rw [List.length_take, Nat.min_eq_left hle] at this
    simpa [Builtin.firstCells] using this
  cases x with
  | sl tk es' =>
    simp only [srcEs] at h
    split at h
    · rename_i hall
      injection h with h
      subst h
      have hes : ∀ e ∈ es', e.cells.length = sz.getD 1 := fun e he => by simp only [allSz, List.all_eq_true, beq_iff_eq] at hall; exact hall e he
      refine ⟨hes, ?_⟩
      cases hx with
      | slnil => exact ⟨[], fun w' => rfl, fun w' k _ _ => by simp [Builtin.firstCells], by simp, by simp [flat]⟩
      | slz => exact ⟨[], fun w' => rfl, fun w' k hk _ => by (have : k = 0 := by simpa using hk); subst this; simp [Builtin.firstCells, loadCells, loadCellsFrom], by simp, by simp [flat]⟩
      | sl _ _ b o cap sz' cv h1 h2 h3 h4 h5 => exact mem b o cap es' hes (fun j c hj => ⟨_, (h3 j c hj).2.1, h4 j c hj, (h3 j c hj).2.2⟩)
    · cases h
  | str l =>
    simp only [srcEs] at h
    split at h
    · rename_i hs
      subst hs
      injection h with h
      subst h
      rw [hx.str_inv]
      have hfl : flat (ofBytes l) = ofBytes l := flat_scalar (fun e he => by obtain ⟨b, _, rfl⟩ := List.mem_map.1 he; rfl)
      refine ⟨fun e he => by obtain ⟨b, _, rfl⟩ := List.mem_map.1 he; rfl, l.map (fun b => .int .u8 b.toNat), fun w' => by simp [Builtin.lenOf, ofBytes, ByteArray.size], fun w' k hk _ => ?_, by simp [ofBytes], fun i c u hc hu => ?_⟩
      · have hk' : k ≤ l.length := by simpa [ofBytes] using hk
        simp only [Builtin.firstCells, extract_bytes l 0 k hk', Sem.run_pure]
        congr 1
        apply Array.ext'
        simp [List.map_take]
      · rw [hfl] at hc
        simp only [ofBytes, List.getElem?_map] at hc hu
        cases hl : l[i]? with
        | none => simp [hl] at hc
        | some b => simp [hl] at hc hu; subst hc; subst hu; exact ⟨.int _ _, rfl⟩
    · cases h
  | msl l off len sz' =>
    simp only [srcEs] at h
    split at h
    · rename_i hs
      subst hs
      cases hl : st.heap[l]? with
      | none => simp [hl] at h
      | some blk =>
        rw [hl] at h
        cases blk with
        | cells fz vs =>
          simp only [] at h
          split at h
          · rename_i hle
            injection h with h
            subst h
            cases hx with
            | msl _ _ _ _ B cap z h1 h2 h3 h4 =>
              obtain ⟨B', p1, p2⟩ := hI.blk l _ hl
              rw [h1] at p1
              injection p1 with p1
              subst p1
              have hc := p2.cellsAt.drop off
              obtain ⟨q1, q2⟩ := chunk_flat (sz := sz) len (vs.drop off) (by simp; omega) (fun _ c hc' => by
                obtain ⟨i, hi, rfl⟩ := List.mem_iff_getElem.1 hc'
                obtain ⟨u, _, v1, v2⟩ := hc i _ (List.getElem?_eq_getElem hi)
                exact scalar_cells v1 v2)
              refine ⟨q1, ?_⟩
              have := mem B off cap (chunk sz len (vs.drop off)) q1 (by rw [q2]; simpa using hc.take _)
              rw [chunk_length] at this ⊢; exact this
          · cases h
        | _ => simp at h
    · cases h
  | _ => simp [srcEs] at h

end Go.Am

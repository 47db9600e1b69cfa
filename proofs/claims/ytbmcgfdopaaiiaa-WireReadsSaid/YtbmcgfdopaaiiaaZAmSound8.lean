/- The abstract machine's operations are sound: slices of arrays, copy, append. -/
import Derived.Test.YtbmcgfdopaaiiaaZAmSound7
set_option linter.all false
namespace Go.Am

theorem boundsOf_none {lo hi : Bool} {len : Nat} {bs : List AV} {a b : Nat} {m : Option Nat} (h : boundsOf lo hi false len bs = some (a, b, m)) : m = none := by
  have hb : ∀ (x1 x2 : Option AV), bounds x1 x2 none len = some (a, b, m) → m = none := by
    intro x1 x2 h
    unfold bounds at h
    cases h1 : bnd1 x2 len len with
    | none => simp [h1] at h
    | some hh =>
      cases h2 : bnd1 x1 0 hh with
      | none => simp [h1, h2] at h
      | some l => simp [h1, h2] at h; exact h.2.2.symm
  cases lo <;> cases hi <;> rcases bs with _ | ⟨x, _ | ⟨y, _ | ⟨z, r⟩⟩⟩ <;> simp [boundsOf, args3] at h <;> exact hb _ _ h

theorem slcArr_sound {P : Program} {G : Gh} {w : World} {st : St} {t e : TypeId} {n : Nat} {sz : Option Nat} {lo hi : Option Value} {x v : AV} {bs : List AV} {y : Value} (hI : Inv G w st) (hu : P.underlying t = some (.array n e)) (hs : szOf P e = some sz)
    (h : evR (.slcArr n sz lo.isSome hi.isSome) (x :: bs) st = some v) (hx : VRel G w x y) (hr : ListRel G w bs (lo.toList ++ hi.toList)) : SOk P G w st (Instr.sliceAt t y lo hi none) v st := by
  obtain ⟨_, hz, hpos⟩ := szOf_run hs w
  have hrun : ∀ b o a c (m : Option Nat), (Instr.sliceBounds false n n lo hi none).run P w = .ok (a, c, m.getD n) w → (Instr.sliceAt t (.pointer (some ⟨b, o, none⟩)) lo hi none).run P w =
      .ok (.slice (some (if m.getD n = a then ⟨b, o, none⟩ else ⟨b, o + a * sz.getD 1, none⟩)) (c - a) (m.getD n - a)) w := by
    intro b o a c m hb
    simp only [Instr.sliceAt, Sem.run_bind, run_underlying hu, Result.andThen, Instr.sureAddr, Sem.run_pure, hb, hz, addr_add]
  cases x with
  | ptr l off =>
    simp only [evR] at h
    cases hb : boundsOf lo.isSome hi.isSome false n bs with
    | none => simp [hb] at h
    | some r =>
      obtain ⟨a, b, m⟩ := r
      simp only [hb, Option.bind_some] at h
      obtain ⟨q1, q2, q3, q4⟩ := boundsOf_run (P := P) (w := w) (G := G) (lo := lo) (hi := hi) (mx := none) false (Nat.le_refl n) hb (by simpa using hr)
      cases hl : st.heap[l]? with
      | none => simp [hl] at h
      | some blk =>
        rw [hl] at h
        cases blk with
        | cells fz vs =>
          simp only [] at h
          split at h
          · rename_i hc
            obtain ⟨hle, ha⟩ := hc
            injection h with e1
            subst e1
            cases hx with
            | ptr _ _ B hB =>
              obtain ⟨B', p1, c, elem, fr, p2, p3, p4, p5⟩ := hI.blk l _ hl
              rw [hB] at p1
              injection p1 with p1
              subst p1
              have hm : m = none := boundsOf_none hb
              subst hm
              simp only [Option.getD_none] at q1
              have hr2 := hrun B off a b none (by simpa using q1)
              simp only [Option.getD_none] at hr2
              have hbs : bsize w B = some c.size := by simp only [bsize, p2]
              by_cases hna : n = a
              · have ha0 : a = 0 := by omega
                subst ha0
                rw [if_pos hna] at hr2
                refine SOk.same hI hr2 ?_
                simp only [Nat.zero_mul, Nat.add_zero]
                exact .msl _ _ _ _ B _ _ hB (by omega) hbs (by subst hna; simp; omega)
              · rw [if_neg hna] at hr2
                refine SOk.same hI hr2 ?_
                refine .msl _ _ _ _ B _ _ hB (by omega) hbs ?_
                have : a * sz.getD 1 + (n - a) * sz.getD 1 = n * sz.getD 1 := by rw [← Nat.add_mul]; congr 1; omega
                omega
          · cases h
        | _ => simp at h
  | rptr u =>
    cases u <;> simp only [evR] at h <;> first | (cases h; done) | skip
    rename_i cs
    cases hb : boundsOf lo.isSome hi.isSome false n bs with
    | none => simp [hb] at h
    | some r =>
      obtain ⟨a, b, m⟩ := r
      simp only [hb, Option.bind_some] at h
      split at h
      · rename_i hc
        injection h with e1
        subst e1
        obtain ⟨q1, q2, q3, q4⟩ := boundsOf_run (P := P) (w := w) (G := G) (lo := lo) (hi := hi) (mx := none) false (Nat.le_refl n) hb (by simpa using hr)
        obtain ⟨bb, o, rfl, h1, h2⟩ := rptr_full hx
        have hr2 := hrun bb o a b m q1
        simp only [AV.cells] at h1 h2
        obtain ⟨k1, k2⟩ := chunk_flat (sz := sz) n cs (by omega) (fun _ c hc' => by
          obtain ⟨i, hi, rfl⟩ := List.mem_iff_getElem.1 hc'
          obtain ⟨u, _, v1, v2⟩ := h1 i _ (List.getElem?_eq_getElem hi)
          exact scalar_cells v1 v2)
        have hfl : flat (chunk sz n cs) = cs := by rw [k2, ← hc, List.take_length]
        have hcv : ∃ cv : Nat → Value, ∀ (j : Nat) (c : AV), cs[j]? = some c → w.cell? ⟨bb, o + j, none⟩ = some (cv j) ∧ VRel G w c (cv j) ∧ (cv j).oneCell' = true := by
          refine ⟨fun j => (w.cell? ⟨bb, o + j, none⟩).getD undef, fun j c hj => ?_⟩
          obtain ⟨u, p1, p2, p3⟩ := h1 j c hj
          simp [p1, p2, p3]
        obtain ⟨cv, hcv⟩ := hcv
        have hmc : m.getD n ≤ n ∧ b ≤ m.getD n := by
          cases m with
          | none => simp; omega
          | some m' => have := q4 m' rfl; simp; omega
        refine SOk.same hI hr2 ?_
        have key := fun o' ho' => VRel.sl_sub (G := G) (w := w) (t' := .any) (es := chunk sz n cs) (b := bb) (o := o) (sz := sz.getD 1) (cv := cv) (a := a) (c := b) (cap' := m.getD n - a) (o' := o') k1
          (fun j c hj => by rw [hfl] at hj; exact ⟨h2 j c hj, (hcv j c hj).1, (hcv j c hj).2.2⟩) (fun j c hj => by rw [hfl] at hj; exact (hcv j c hj).2.1) q2 (by rw [chunk_length]; exact q3) (by omega) ho' trivial
        split
        · exact key o (.inl (by omega))
        · exact key _ (.inr rfl)
      · cases h
  | _ => simp [evR] at h


theorem normL_eq : ∀ (l : List AV), normL l = l.map AV.norm
  | [] => rfl
  | v :: l => by simp [normL, normL_eq l]

theorem norm_cells (v : AV) : v.norm.cells = normL v.cells := by
  cases v <;> simp [AV.norm, AV.cells, normL]

theorem flat_norm : ∀ (es : List AV), flat (normL es) = normL (flat es)
  | [] => rfl
  | e :: es => by
    have := flat_norm es
    simp only [flat, normL_eq] at this ⊢
    simp only [List.map_cons, List.flatMap_cons, this, norm_cells, normL_eq, List.map_append]

theorem VRel.norm {G : Gh} {w : World} {v : AV} {x : Value} (h : VRel G w v x) : VRel G w v.norm x := by
  induction h with
  | any v => exact .any v
  | bool b => exact .bool b
  | int k n => exact .int k n
  | str s => exact .str s
  | nilp => exact .nilp
  | ptr l off B hl => exact .ptr l off B hl
  | rptr v b o cv h1 h2 ih =>
    have key : ∀ (j : Nat) (c : AV), v.norm.cells[j]? = some c → ∃ c', v.cells[j]? = some c' ∧ c = c'.norm := fun j c hj => by
      rw [norm_cells, normL_eq, List.getElem?_map] at hj
      cases hc : v.cells[j]? with
      | none => simp [hc] at hj
      | some c' => simp [hc] at hj; exact ⟨c', rfl, hj.symm⟩
    exact .rptr v.norm b o cv (fun j c hj => by obtain ⟨c', q1, _⟩ := key j c hj; exact h1 j c' q1) (fun j c hj => by obtain ⟨c', q1, rfl⟩ := key j c hj; exact ih j c' q1)
  | slnil t ht => exact .slnil _ trivial
  | slz t a ht => exact .slz _ a trivial
  | sl t es b o cap sz cv h1 h2 h3 h4 h5 ih =>
    have key : ∀ (j : Nat) (c : AV), (flat (normL es))[j]? = some c → ∃ c', (flat es)[j]? = some c' ∧ c = c'.norm := fun j c hj => by
      rw [flat_norm, normL_eq, List.getElem?_map] at hj
      cases hc : (flat es)[j]? with
      | none => simp [hc] at hj
      | some c' => simp [hc] at hj; exact ⟨c', rfl, hj.symm⟩
    have hl : (normL es).length = es.length := by rw [normL_eq]; simp
    have := VRel.sl (G := G) (w := w) .any (normL es) b o cap sz cv (fun e he => by
      rw [normL_eq] at he
      obtain ⟨e', he', rfl⟩ := List.mem_map.1 he
      rw [norm_cells, normL_eq, List.length_map]
      exact h1 e' he') (by rw [hl]; exact h2) (fun j c hj => by obtain ⟨c', q1, _⟩ := key j c hj; exact h3 j c' q1) (fun j c hj => by obtain ⟨c', q1, rfl⟩ := key j c hj; exact ih j c' q1) trivial
    rw [hl] at this
    exact this
  | msl l off len sz B cap z h1 h2 h3 h4 => exact .msl l off len sz B cap z h1 h2 h3 h4
  | mapnil => exact .mapnil
  | map l B hl => exact .map l B hl
  | fn f xs ys vs us h1 h2 _ _ ih1 ih2 =>
    refine .fn f _ _ vs us (by rw [normL_eq]; simpa using h1) (by rw [normL_eq]; simpa using h2) (fun i c v hc hv => ?_) (fun i c v hc hv => ?_)
    · rw [normL_eq, List.getElem?_map] at hc
      cases hx : xs[i]? with
      | none => simp [hx] at hc
      | some c' => simp [hx] at hc; subst hc; exact ih1 i c' v hx hv
    · rw [normL_eq, List.getElem?_map] at hc
      cases hx : ys[i]? with
      | none => simp [hx] at hc
      | some c' => simp [hx] at hc; subst hc; exact ih2 i c' v hx hv
  | nilfn => exact .nilfn
  | agg cs vs h1 h2 _ ih =>
    refine .agg _ vs (by rw [normL_eq]; simpa using h1) h2 (fun i c v hc hv => ?_)
    rw [normL_eq, List.getElem?_map] at hc
    cases hx : cs[i]? with
    | none => simp [hx] at hc
    | some c' => simp [hx] at hc; subst hc; exact ih i c' v hx hv
  | tup cs vs h1 _ ih =>
    refine .tup _ vs (by rw [normL_eq]; simpa using h1) (fun i c v hc hv => ?_)
    rw [normL_eq, List.getElem?_map] at hc
    cases hx : cs[i]? with
    | none => simp [hx] at hc
    | some c' => simp [hx] at hc; subst hc; exact ih i c' v hx hv

theorem copy_sound {P : Program} {G : Gh} {w : World} {st st' : St} {t tx ty e : TypeId} {sz : Option Nat} {x1 x2 v : AV} {y1 y2 : Value} (hI : Inv G w st) (hu : P.underlying t = some (.slice e)) (hs : szOf P e = some sz)
    (h : evW (.copy sz) [x1, x2] st = some (v, st')) (h1 : VRel G w x1 y1) (h2 : VRel G w x2 y2) : SOk P G w st (Builtin.copy_ #[t, tx] ty #[y1, y2]) v st' := by
  obtain ⟨_, hz, hpos⟩ := szOf_run hs w
  cases x1 with
  | msl l off len sz' =>
    simp only [evW] at h
    cases hsrc : srcEs sz st x2 with
    | none => simp [hsrc] at h
    | some es =>
      cases hl : st.heap[l]? with
      | none => simp [hsrc, hl] at h
      | some blk =>
        rw [hsrc, hl] at h
        cases blk with
        | cells fz vs =>
          cases fz with
          | true => simp at h
          | false =>
            simp only [] at h
            split at h
            · rename_i hc
              obtain ⟨rfl, hle⟩ := hc
              injection h with h
              injection h with e1 e2
              subst e1; subst e2
              obtain ⟨s1, news, s2, s3, s4, s5⟩ := src_sound (P := P) hI h2 hsrc
              cases h1 with
              | msl _ _ _ _ B cap z m1 m2 m3 m4 =>
                obtain ⟨B', p1, c, elem, fr, p2, p3, p4, p5, p6⟩ := hI.blk l _ hl
                rw [m1] at p1
                injection p1 with p1
                subst p1
                have hmin : min es.length len ≤ es.length := Nat.min_le_left _ _
                have hmin2 : min es.length len ≤ len := Nat.min_le_right _ _
                have hmul : min es.length len * sz.getD 1 ≤ len * sz.getD 1 := Nat.mul_le_mul_right _ hmin2
                have hmul2 : min es.length len * sz.getD 1 ≤ news.length := by rw [s4]; exact Nat.mul_le_mul_right _ hmin
                have hft : flat (es.take (min es.length len)) = (flat es).take (min es.length len * sz.getD 1) := flat_take s1 _
                have hfl : (flat (es.take (min es.length len))).length = min es.length len * sz.getD 1 := by
                  rw [hft, List.length_take, flat_length s1]
                  exact Nat.min_eq_left (Nat.mul_le_mul_right _ hmin)
                have hnl : (news.take (min es.length len * sz.getD 1)).length = min es.length len * sz.getD 1 := by rw [List.length_take]; exact Nat.min_eq_left hmul2
                have hrel : ∀ (i : Nat) (c : AV) (u : Value), (flat (es.take (min es.length len)))[i]? = some c → (news.take (min es.length len * sz.getD 1))[i]? = some u → VRel G w c u ∧ u.oneCell' = true := fun i c u hc hu => by
                  rw [hft, List.getElem?_take] at hc
                  rw [List.getElem?_take] at hu
                  split at hc
                  · rename_i hlt
                    rw [if_pos hlt] at hu
                    exact s5 i c u hc hu
                  · cases hc
                obtain ⟨i1, e1⟩ := Inv.storeMuts (G := G) (flat (es.take (min es.length len))) (news.take (min es.length len * sz.getD 1)) w st vs off hI hl m1 (by omega) (by rw [hfl, hnl]) hrel
                refine ⟨.int .i64 (min es.length len : Nat), _, G, ?_, i1, e1, .int _ _⟩
                have hst := run_storeCells_cells (P := P) B off (news.take (min es.length len * sz.getD 1)) 0 w (fun j hj => by simp only [World.cell?, p2]; simp; omega) (fun j hj => p6 _ (by omega))
                  (mem_oneCell (by rw [hfl, hnl]) hrel)
                simp only [Nat.add_zero] at hst
                have hmn : Nat.min es.length len = min es.length len := rfl
                simp [Builtin.copy_, run_underlying hu, s2, hz, s3 w _ hmin (fun _ => rfl), hst, goInt]
            · cases h
        | _ => simp at h
  | _ => simp [evW] at h

end Go.Am

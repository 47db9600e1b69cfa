/- The abstract machine's operations are sound: reading and writing memory. -/
import Derived.Test.YtbmcgfdopaaiiaaZAmOps
import Derived.Laws.Cells
set_option linter.all false
namespace Go.Am

theorem addr_add (b o n : Nat) : (⟨b, o, none⟩ : Addr).add n = ⟨b, o + n, none⟩ := by
  unfold Addr.add
  split <;> simp_all

theorem szOf_run {P : Program} {t : TypeId} {sz : Option Nat} (h : szOf P t = some sz) (w : World) :
    (isAgg t).run P w = .ok sz.isSome w ∧ (sizeOf t).run P w = .ok (sz.getD 1) w ∧ 0 < sz.getD 1 := by
  unfold szOf at h
  cases hi : P.info? t with
  | none => simp [hi] at h
  | some i =>
    cases hu : P.underlying t with
    | none => simp [hi, hu] at h
    | some d =>
      have hs : (sizeOf t).run P w = .ok i.size w := by simp [sizeOf, typeInfo, hi]
      have ha : (isAgg t).run P w = .ok (match d with | .struct _ | .array _ _ => true | _ => false) w := by
        simp only [isAgg, Sem.run_bind, run_underlying hu, Result.andThen]
        cases d <;> rfl
      rw [hs, ha]
      rw [hi, hu] at h
      cases d <;> simp only [] at h <;> split at h <;> first
        | (cases h; done)
        | (injection h with h; subst h; refine ⟨rfl, ?_, ?_⟩ <;> simp_all <;> omega)

/-- What stands in a row of cells. -/
def CellsAt (G : Gh) (w : World) (b o : Nat) (cs : List AV) : Prop :=
  ∀ (j : Nat) (c : AV), cs[j]? = some c → ∃ u, w.cell? ⟨b, o + j, none⟩ = some u ∧ VRel G w c u ∧ u.oneCell' = true

theorem BlkRel.cellsAt {G : Gh} {w : World} {B : Nat} {fz : Bool} {vs : List AV} (h : BlkRel G w B (.cells fz vs)) : CellsAt G w B 0 vs := by
  obtain ⟨c, elem, fr, h1, h2, h3, h4⟩ := h
  intro j a hj
  have hlt := (List.getElem?_eq_some_iff.1 hj).1
  have hc : j < c.size := by omega
  have := h3 j a c[j] hj (by simp [hc])
  exact ⟨c[j], by simp [World.cell?, h1, hc], this⟩

theorem CellsAt.drop {G : Gh} {w : World} {b o : Nat} {cs : List AV} (h : CellsAt G w b o cs) (n : Nat) : CellsAt G w b (o + n) (cs.drop n) := by
  intro j c hj
  rw [List.getElem?_drop] at hj
  have := h (n + j) c hj
  rwa [Nat.add_assoc]

theorem CellsAt.take {G : Gh} {w : World} {b o : Nat} {cs : List AV} (h : CellsAt G w b o cs) (n : Nat) : CellsAt G w b o (cs.take n) := by
  intro j c hj
  rw [List.getElem?_take] at hj
  split at hj
  · exact h j c hj
  · cases hj

/-- The values of a row of cells, as a list. -/
theorem CellsAt.list {G : Gh} {w : World} {b o : Nat} {cs : List AV} (h : CellsAt G w b o cs) :
    ∃ us : List Value, us.length = cs.length ∧ (∀ (j : Nat) (u : Value), us[j]? = some u → w.cell? ⟨b, o + j, none⟩ = some u) ∧
      (∀ (j : Nat) (c : AV) (u : Value), cs[j]? = some c → us[j]? = some u → VRel G w c u ∧ u.oneCell' = true) := by
  induction cs generalizing o with
  | nil => exact ⟨[], rfl, by simp, by simp⟩
  | cons c cs ih =>
    obtain ⟨us, h1, h2, h3⟩ := ih (h.drop 1)
    obtain ⟨u, hu, hv, h1'⟩ := h 0 c rfl
    refine ⟨u :: us, by simp [h1], fun j u' hj => ?_, fun j c' u' hc hj => ?_⟩
    · cases j with
      | zero => simp at hj; subst hj; exact hu
      | succ j => simp at hj; have := h2 j u' hj; rwa [show o + (j + 1) = o + 1 + j by omega]
    · cases j with
      | zero => simp at hj hc; subst hj; subst hc; exact ⟨hv, h1'⟩
      | succ j => simp at hj hc; exact h3 j c' u' hc hj

theorem VRel.agg_list {G : Gh} {w : World} {cs : List AV} {us : List Value} (hl : us.length = cs.length)
    (h : ∀ (j : Nat) (c : AV) (u : Value), cs[j]? = some c → us[j]? = some u → VRel G w c u ∧ u.oneCell' = true) : VRel G w (.agg cs) (.agg us.toArray) := by
  refine .agg cs _ (by simp [hl]) (fun i v hv => ?_) (fun i c v hc hv => (h i c v hc (by simpa using hv)).1)
  simp at hv
  have hlt := (List.getElem?_eq_some_iff.1 hv).1
  have : i < cs.length := by omega
  exact (h i cs[i] v (by simp [this]) hv).2

theorem run_loadCells_at (P : Program) {w : World} {b o : Nat} {us : List Value} (h : ∀ (j : Nat) (u : Value), us[j]? = some u → w.cell? ⟨b, o + j, none⟩ = some u) :
    (loadCells ⟨b, o, none⟩ us.length).run P w = .ok us.toArray w :=
  run_loadCells_list w _ us fun j v hj => by rw [addr_add]; exact h j v hj

theorem load_part {P : Program} {G : Gh} {w : World} {t : TypeId} {sz : Option Nat} {b o off : Nat} {cs : List AV} {v : AV} (hs : szOf P t = some sz) (h : CellsAt G w b o cs) (hp : partA cs off sz = some v) :
    ∃ y, (loadVar t ⟨b, o + off, none⟩).run P w = .ok y w ∧ VRel G w v y := by
  obtain ⟨ha, hz, _⟩ := szOf_run hs w
  cases sz with
  | none =>
    obtain ⟨u, h1, h2, _⟩ := h off v hp
    exact ⟨u, by simp [loadVar, ha, h1], h2⟩
  | some k =>
    simp only [partA] at hp
    split at hp
    · rename_i hle
      injection hp with hp
      subst hp
      obtain ⟨us, q1, q2, q3⟩ := ((h.drop off).take k).list
      have hk : us.length = k := by rw [q1]; simp; omega
      refine ⟨.agg us.toArray, ?_, VRel.agg_list q1 q3⟩
      have := run_loadCells_at P q2
      rw [hk] at this
      simp [loadVar, ha, hz, this]
    · cases hp

theorem rptr_cellsAt {G : Gh} {w : World} {v : AV} {y : Value} (h : VRel G w (.rptr v) y) : ∃ b o, y = .pointer (some ⟨b, o, none⟩) ∧ CellsAt G w b o v.cells := by
  cases h with
  | rptr v b o cv h1 h2 => exact ⟨b, o, rfl, fun j c hj => ⟨cv j, (h1 j c hj).2.1, h2 j c hj, (h1 j c hj).2.2⟩⟩

theorem load_sound {P : Program} {G : Gh} {w : World} {st : St} {t : TypeId} {sz : Option Nat} {x v : AV} {y : Value} (hs : szOf P t = some sz) (hI : Inv G w st) (hx : VRel G w x y) (he : evR (.load sz) [x] st = some v) :
    ∃ y', (Instr.loadAt t y).run P w = .ok y' w ∧ VRel G w v y' := by
  cases x with
  | ptr l off =>
    cases hx with
    | ptr _ _ B hB =>
      simp only [evR] at he
      cases hl : st.heap[l]? with
      | none => simp [hl] at he
      | some blk =>
        rw [hl] at he
        cases blk with
        | cells fz vs =>
          obtain ⟨B', q1, q2⟩ := hI.blk l _ hl
          rw [hB] at q1
          injection q1 with q1
          subst q1
          obtain ⟨y', r1, r2⟩ := load_part hs q2.cellsAt he
          exact ⟨y', by simpa [Instr.loadAt, Instr.sureAddr] using r1, r2⟩
        | _ => simp at he
  | rptr u =>
    obtain ⟨b, o, rfl, hc⟩ := rptr_cellsAt hx
    have hp : partA u.cells 0 sz = some v := by
      cases sz with
      | none =>
        cases u <;> simp [evR] at he <;> simp [partA, AV.cells, he]
      | some k =>
        cases u <;> simp [evR] at he
        obtain ⟨rfl, rfl⟩ := he
        simp [partA, AV.cells]
    obtain ⟨y', r1, r2⟩ := load_part hs hc hp
    exact ⟨y', by simpa [Instr.loadAt, Instr.sureAddr] using r1, r2⟩
  | _ => simp [evR] at he

theorem shaped_facts {sz : Option Nat} {v : AV} (h : shaped sz v = true) : v ≠ .any ∧ isTup v = false ∧ v.cells.length = sz.getD 1 := by
  cases sz with
  | none => cases v <;> simp [shaped] at h <;> exact ⟨nofun, rfl, rfl⟩
  | some k => cases v <;> simp [shaped] at h <;> exact ⟨nofun, rfl, by simpa [AV.cells] using h⟩

theorem run_storeVar_at (P : Program) {w : World} {t : TypeId} {b o : Nat} {y : Value} (hz : (sizeOf t).run P w = .ok y.cells.size w)
    (hc : ∀ j, j < y.cells.size → (w.cell? ⟨b, o + j, none⟩).isSome = true) (hf : ∀ j, j < y.cells.size → w.frozen? ⟨b, o + j, none⟩ = false) (h1 : ∀ v ∈ y.cells.toList, v.oneCell' = true) :
    (storeVar t ⟨b, o, none⟩ y).run P w = .ok () (w.setCells b o y.cells.toList) := by
  have := run_storeCells_cells (P := P) b o y.cells.toList 0 w (by simpa using hc) (by simpa using hf) h1
  simpa [storeVar, hz] using this


/-- A value that is stored or laid in new cells. -/
theorem VRel.cells_list {G : Gh} {w : World} {v : AV} {y : Value} (h : VRel G w v y) (hv : v ≠ .any) (ht : isTup v = false) :
    v.cells.length = y.cells.toList.length ∧ ∀ (i : Nat) (c : AV) (u : Value), v.cells[i]? = some c → y.cells.toList[i]? = some u → VRel G w c u ∧ u.oneCell' = true := by
  obtain ⟨h1, h2⟩ := h.cells hv ht
  exact ⟨by simpa using h1, fun i c u hc hu => h2 i c u hc (by simpa using hu)⟩

theorem mem_oneCell {cs : List AV} {us : List Value} {R : AV → Value → Prop} (hl : cs.length = us.length) (h : ∀ (i : Nat) (c : AV) (u : Value), cs[i]? = some c → us[i]? = some u → R c u ∧ u.oneCell' = true) : ∀ u ∈ us, u.oneCell' = true := by
  intro u hu
  obtain ⟨i, hi, rfl⟩ := List.mem_iff_getElem.1 hu
  exact (h i cs[i] us[i] (by simp [hl, hi]) (by simp [hi])).2

theorem store_sound {P : Program} {G : Gh} {w : World} {st st' : St} {t : TypeId} {sz : Option Nat} {x v r : AV} {y u : Value} (hs : szOf P t = some sz) (hI : Inv G w st) (hx : VRel G w x y) (hv : VRel G w v u) (he : evW (.store sz) [x, v] st = some (r, st')) :
    r = .tup [] ∧ ∃ w', (Instr.storeAt t y u).run P w = .ok () w' ∧ Inv G w' st' ∧ Ext G w G w' st.heap.length st.toks.length := by
  cases x with
  | ptr l off =>
    cases hx with
    | ptr _ _ B hB =>
      simp only [evW] at he
      cases hl : st.heap[l]? with
      | none => simp [hl] at he
      | some blk =>
        rw [hl] at he
        cases blk with
        | cells fz vs =>
          cases fz with
          | true => simp at he
          | false =>
            simp only [] at he
            split at he
            · rename_i hc
              simp only [Bool.and_eq_true, decide_eq_true_eq] at hc
              injection he with he
              injection he with e1 e2
              subst e1; subst e2
              obtain ⟨hv1, hv2, hv3⟩ := shaped_facts hc.1
              obtain ⟨q1, q2⟩ := hv.cells_list hv1 hv2
              obtain ⟨i1, e1⟩ := Inv.storeMuts (G := G) v.cells u.cells.toList w st vs off hI hl hB hc.2 q1 q2
              refine ⟨rfl, _, ?_, i1, e1⟩
              obtain ⟨B', p1, c, elem, fr, p2, p3, p4, p5, p6⟩ := hI.blk l _ hl
              rw [hB] at p1
              injection p1 with p1
              subst p1
              have hlen : u.cells.size = v.cells.length := by simpa using q1.symm
              have := run_storeVar_at P (t := t) (b := B) (o := off) (y := u) (w := w) (by rw [(szOf_run hs w).2.1, hlen, hv3])
                (fun j hj => by simp only [World.cell?, p2]; simp; omega) (fun j hj => p6 _ (by omega)) (mem_oneCell q1 q2)
              simpa [Instr.storeAt, Instr.sureAddr] using this
            · cases he
        | _ => simp at he
  | _ => simp [evW] at he

theorem cells_rel {G : Gh} {w : World} {cs : List AV} {us : Array Value} (hl : cs.length = us.size)
    (h : ∀ (i : Nat) (c : AV) (u : Value), cs[i]? = some c → us[i]? = some u → VRel G w c u ∧ u.oneCell' = true) {G' : Gh} {w' : World} (hv : ∀ v x, VRel G w v x → VRel G' w' v x) {B : Nat} {e : TypeId}
    (hb : w'.heap[B]? = some (.cells us e)) (hi : ∀ i, ¬ G'.imm B i) : BlkRel G' w' B (.cells false cs) :=
  ⟨us, e, (0, 0), hb, by omega, fun i v x hi hx => ⟨hv _ _ (h i v x hi hx).1, (h i v x hi hx).2⟩, hi, fun o ho => by simp [World.frozen?, hb]⟩

theorem newVar_sound {P : Program} {G : Gh} {w : World} {st : St} {t : TypeId} {v : AV} {u : Value} (hI : Inv G w st) (hv : VRel G w v u) (hv1 : v ≠ .any) (hv2 : isTup v = false) :
    ∃ w' G', (newVar t u).run P w = .ok ⟨w.heap.size, 0, none⟩ w' ∧ Inv G' w' { st with heap := st.heap ++ [.cells false v.cells] } ∧ Ext G w G' w' st.heap.length st.toks.length ∧
      VRel G' w' (.ptr st.heap.length 0) (.pointer (some ⟨w.heap.size, 0, none⟩)) := by
  obtain ⟨q1, q2⟩ := hv.cells hv1 hv2
  obtain ⟨i1, e1⟩ := hI.allocMut (.cells u.cells t) (.cells false v.cells) (fun G' w' h1 h2 h3 => cells_rel q1 q2 h1 h2 h3)
  exact ⟨_, _, by simp [newVar, newRow], i1, e1, .ptr _ _ _ (by simp [Gh.addRho])⟩

end Go.Am

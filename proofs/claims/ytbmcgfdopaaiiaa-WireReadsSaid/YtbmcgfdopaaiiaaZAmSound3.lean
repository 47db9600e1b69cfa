/- The abstract machine's operations are sound: parts, addresses, slices. -/
import Derived.Test.YtbmcgfdopaaiiaaZAmSound2
set_option linter.all false
namespace Go.Am

theorem unA_sound {P : Program} {G : Gh} {w : World} {op : UnOp} {x v : AV} {y : Value} (h : unA op x = some v) (hx : VRel G w x y) : ∃ u, (Op.unary op y).run P w = .ok u w ∧ VRel G w v u := by
  unfold unA at h
  split at h <;> first | (cases h; done) | skip
  all_goals
    injection h with h
    subst h
    cases hx
    exact ⟨_, rfl, by constructor⟩

/-! Parts of a struct's or an array's value. -/

theorem partA_sound {P : Program} {G : Gh} {w : World} {t : TypeId} {sz : Option Nat} {cs : List AV} {us : Array Value} {off : Nat} {v : AV} (hs : szOf P t = some sz) (hp : partA cs off sz = some v) (hx : VRel G w (.agg cs) (.agg us)) :
    ∃ u, (part t us off).run P w = .ok u w ∧ VRel G w v u := by
  obtain ⟨ha, hz, _⟩ := szOf_run hs w
  cases hx with
  | agg _ _ a1 a2 a3 =>
    cases sz with
    | none =>
      have hl := (List.getElem?_eq_some_iff.1 hp).1
      have hu : us[off]? = some us[off] := by simp [(by omega : off < us.size)]
      exact ⟨us[off], by simp only [part, Sem.run_bind, ha, Result.andThen]; simp [hu], a3 off v _ hp hu⟩
    | some k =>
      simp only [partA] at hp
      split at hp
      · injection hp with hp
        subst hp
        refine ⟨.agg (us.extract off (off + k)), by simp [part, ha, hz], .agg _ _ (by simp; omega) (fun i v hi => ?_) (fun i c v hc hi => ?_)⟩
        · rw [Array.getElem?_extract] at hi
          split at hi
          · exact a2 _ _ hi
          · cases hi
        · rw [Array.getElem?_extract] at hi
          rw [List.getElem?_take, List.getElem?_drop] at hc
          split at hi
          · split at hc
            · exact a3 _ _ _ hc hi
            · cases hc
          · cases hi
      · cases hp

theorem field_sound {P : Program} {G : Gh} {w : World} {t : TypeId} {i off : Nat} {sz : Option Nat} {x v : AV} {y : Value} (hf : fieldOf P t i = some (off, sz)) (h : evP (.field off sz) [x] = some v) (hx : VRel G w x y) :
    ∃ u, (Instr.field t y i).run P w = .ok u w ∧ VRel G w v u := by
  unfold fieldOf at hf
  split at hf
  · rename_i fs hu
    cases hfi : fs[i]? with
    | none => simp [hfi] at hf
    | some f =>
      cases hsz : szOf P f.type with
      | none => simp [hfi, hsz] at hf
      | some s =>
        simp [hfi, hsz] at hf
        obtain ⟨rfl, rfl⟩ := hf
        cases x <;> simp [evP] at h
        cases hx with
        | agg _ us a1 a2 a3 =>
          obtain ⟨u, q1, q2⟩ := partA_sound hsz h (.agg _ us a1 a2 a3)
          exact ⟨u, by simp [Instr.field, run_underlying hu, hfi, asAgg, q1], q2⟩
  · cases hf

theorem VRel.rptr_of {G : Gh} {w : World} {v : AV} {b o : Nat} (h1 : ∀ (j : Nat) (c : AV), v.cells[j]? = some c → G.imm b (o + j)) (h2 : CellsAt G w b o v.cells) : VRel G w (.rptr v) (.pointer (some ⟨b, o, none⟩)) := by
  have hc : ∀ j : Nat, ∃ u : Value, ∀ c, v.cells[j]? = some c → w.cell? ⟨b, o + j, none⟩ = some u ∧ VRel G w c u ∧ u.oneCell' = true := by
    intro j
    cases hj : v.cells[j]? with
    | none => exact ⟨undef, fun c hc => by cases hc⟩
    | some c =>
      obtain ⟨u, hu⟩ := h2 j c hj
      exact ⟨u, fun c' hc' => by injection hc' with e; subst e; exact hu⟩
  exact .rptr v b o (fun j => (hc j).choose) (fun j c hj => ⟨h1 j c hj, ((hc j).choose_spec c hj).1, ((hc j).choose_spec c hj).2.2⟩) (fun j c hj => ((hc j).choose_spec c hj).2.1)

theorem rptr_full {G : Gh} {w : World} {v : AV} {y : Value} (h : VRel G w (.rptr v) y) : ∃ b o, y = .pointer (some ⟨b, o, none⟩) ∧ CellsAt G w b o v.cells ∧ ∀ (j : Nat) (c : AV), v.cells[j]? = some c → G.imm b (o + j) := by
  cases h with
  | rptr v b o cv h1 h2 => exact ⟨b, o, rfl, fun j c hj => ⟨cv j, (h1 j c hj).2.1, h2 j c hj, (h1 j c hj).2.2⟩, fun j c hj => (h1 j c hj).1⟩

/-- A part of what a pointer to memory that never turns leads to. -/
theorem rptr_part {G : Gh} {w : World} {cs : List AV} {b o off : Nat} {sz : Option Nat} {v : AV} (h1 : CellsAt G w b o cs) (h2 : ∀ (j : Nat) (c : AV), cs[j]? = some c → G.imm b (o + j)) (hp : partA cs off sz = some v) :
    VRel G w (.rptr v) (.pointer (some ⟨b, o + off, none⟩)) := by
  cases sz with
  | none =>
    have hv : v.cells = [v] := by
      obtain ⟨u, _, q2, q3⟩ := h1 off v hp
      cases v <;> first | rfl | (cases q2; simp [Value.oneCell'] at q3)
    refine VRel.rptr_of (fun j c hj => ?_) (fun j c hj => ?_)
    · rw [hv] at hj
      cases j with
      | zero => simp at hj; subst hj; exact h2 off v hp
      | succ j => simp at hj
    · rw [hv] at hj
      cases j with
      | zero => simp at hj; subst hj; exact h1 off v hp
      | succ j => simp at hj
  | some k =>
    simp only [partA] at hp
    split at hp
    · injection hp with hp
      subst hp
      refine VRel.rptr_of (fun j c hj => ?_) ((h1.drop off).take k)
      simp only [AV.cells] at hj
      rw [List.getElem?_take, List.getElem?_drop] at hj
      split at hj
      · have := h2 _ _ hj; rwa [Nat.add_assoc]
      · cases hj
    · cases hp


theorem fieldAddr_sound {P : Program} {G : Gh} {w : World} {t : TypeId} {i off : Nat} {sz : Option Nat} {x v : AV} {y : Value} (hf : fieldOf P t i = some (off, sz)) (h : evP (.fieldAddr off sz) [x] = some v) (hx : VRel G w x y) :
    ∃ u, (Instr.fieldAt t y i).run P w = .ok u w ∧ VRel G w v u := by
  unfold fieldOf at hf
  split at hf
  · rename_i fs hu
    cases hfi : fs[i]? with
    | none => simp [hfi] at hf
    | some f =>
      cases hsz : szOf P f.type with
      | none => simp [hfi, hsz] at hf
      | some s =>
        simp [hfi, hsz] at hf
        obtain ⟨rfl, rfl⟩ := hf
        obtain ⟨_, hz, hpos⟩ := szOf_run hsz w
        have hplace : ∀ b o, (fieldPlace ⟨b, o, none⟩ f).run P w = .ok ⟨b, o + f.offset, none⟩ w := fun b o => by
          simp only [fieldPlace, Sem.run_bind, hz, Result.andThen]
          rw [if_neg (by omega)]
          simp [addr_add]
        cases x with
        | ptr l o =>
          simp [evP] at h
          subst h
          cases hx with
          | ptr _ _ B hB => exact ⟨_, by simp [Instr.fieldAt, run_underlying hu, hfi, Instr.sureAddr, hplace], .ptr _ _ _ hB⟩
        | rptr u =>
          cases u <;> simp [evP] at h
          obtain ⟨v', hp, rfl⟩ := h
          obtain ⟨b, o, rfl, h1, h2⟩ := rptr_full hx
          exact ⟨_, by simp [Instr.fieldAt, run_underlying hu, hfi, Instr.sureAddr, hplace], rptr_part h1 h2 hp⟩
        | _ => simp [evP] at h
  · cases hf

theorem flat_at {es : List AV} {sz : Nat} : ∀ {i : Nat} {e : AV}, (∀ e ∈ es, e.cells.length = sz) → es[i]? = some e → ∀ (j : Nat) (c : AV), e.cells[j]? = some c → (flat es)[i * sz + j]? = some c := by
  induction es with
  | nil => intro i e _ hi; simp at hi
  | cons a es ih =>
    intro i e hs hi j c hj
    have ha := hs a (by simp)
    cases i with
    | zero =>
      simp at hi
      subst hi
      have hl := (List.getElem?_eq_some_iff.1 hj).1
      simp only [flat, List.flatMap_cons, Nat.zero_mul, Nat.zero_add]
      rw [List.getElem?_append_left hl]
      exact hj
    | succ i =>
      simp at hi
      have := ih (fun e he => hs e (by simp [he])) hi j c hj
      simp only [flat, List.flatMap_cons]
      rw [List.getElem?_append_right (by rw [ha, Nat.succ_mul]; omega), ha, show (i + 1) * sz + j - sz = i * sz + j by rw [Nat.succ_mul]; omega]
      exact this

theorem flat_length {es : List AV} {sz : Nat} (h : ∀ e ∈ es, e.cells.length = sz) : (flat es).length = es.length * sz := by
  induction es with
  | nil => simp [flat]
  | cons a es ih =>
    have := ih (fun e he => h e (by simp [he]))
    have ha := h a (by simp)
    simp only [flat, List.flatMap_cons, List.length_append, List.length_cons] at this ⊢
    rw [this, ha, Nat.succ_mul]
    omega

theorem elemOfA_u {P : Program} {t e : TypeId} (h : elemOfA P t = some e) : P.underlying t = some (.slice e) := by
  unfold elemOfA at h
  split at h
  · injection h with h; subst h; assumption
  · cases h

theorem idxSl_sound {P : Program} {G : Gh} {w : World} {st : St} {t e : TypeId} {sz : Option Nat} {x i v : AV} {y iy : Value} (hu : P.underlying t = some (.slice e)) (hs : szOf P e = some sz) (hI : Inv G w st) (h : evP (.idxSl sz) [x, i] = some v) (hx : VRel G w x y) (hi : VRel G w i iy) :
    ∃ u, (Instr.indexAt t y iy).run P w = .ok u w ∧ VRel G w v u := by
  obtain ⟨_, hz, hpos⟩ := szOf_run hs w
  cases i with
  | int k n =>
    cases hi
    cases x with
    | sl tk es =>
      simp only [evP] at h
      split at h
      · rename_i hn
        cases he : es[n.toNat]? with
        | none => simp [he] at h
        | some a =>
          simp [he] at h
          obtain ⟨ha, rfl⟩ := h
          have hlt := (List.getElem?_eq_some_iff.1 he).1
          cases hx with
          | slnil => simp at he
          | slz => simp at he
          | sl _ _ b o cap sz' cv h1 h2 h3 h4 h5 =>
            have hsz : sz' = sz.getD 1 := by rw [← ha]; exact (h1 a (List.mem_of_getElem? he)).symm
            subst hsz
            refine ⟨.pointer (some ⟨b, o + n.toNat * sz.getD 1, none⟩), ?_, VRel.rptr_of (fun j c hj => ?_) (fun j c hj => ?_)⟩
            · simp only [Instr.indexAt, asIntOf, Sem.run_bind, Sem.run_pure, Result.andThen, run_underlying hu]
              rw [if_pos ⟨hn, by omega⟩]
              simp [hz, addr_add]
            · have := (h3 _ c (flat_at h1 he j c hj)).1; rwa [← Nat.add_assoc] at this
            · have h3' := h3 _ c (flat_at h1 he j c hj)
              have h4' := h4 _ c (flat_at h1 he j c hj)
              rw [← Nat.add_assoc] at h3'
              exact ⟨_, h3'.2.1, h4', h3'.2.2⟩
      · cases h
    | msl l off len sz' =>
      simp only [evP] at h
      split at h
      · rename_i hc
        injection h with h
        subst h
        obtain ⟨rfl, hn, hlt⟩ := hc
        cases hx with
        | msl _ _ _ _ B cap z h1 h2 h3 h4 =>
          refine ⟨.pointer (some ⟨B, off + n.toNat * sz.getD 1, none⟩), ?_, .ptr _ _ _ h1⟩
          simp only [Instr.indexAt, asIntOf, Sem.run_bind, Sem.run_pure, Result.andThen, run_underlying hu]
          rw [if_pos ⟨hn, hlt⟩]
          simp [hz, addr_add]
      · cases h
    | _ => simp [evP] at h
  | _ => cases x <;> simp [evP] at h

theorem idxArr_sound {P : Program} {G : Gh} {w : World} {st : St} {t e : TypeId} {m : Nat} {sz : Option Nat} {x i v : AV} {y iy : Value} (hu : P.underlying t = some (.array m e)) (hs : szOf P e = some sz) (hI : Inv G w st) (h : evP (.idxArr m sz) [x, i] = some v) (hx : VRel G w x y) (hi : VRel G w i iy) :
    ∃ u, (Instr.indexAt t y iy).run P w = .ok u w ∧ VRel G w v u := by
  obtain ⟨_, hz, hpos⟩ := szOf_run hs w
  have hrun : ∀ b o k (n : Int), 0 ≤ n → n < m → (Instr.indexAt t (.pointer (some ⟨b, o, none⟩)) (.int k n)).run P w = .ok (.pointer (some ⟨b, o + n.toNat * sz.getD 1, none⟩)) w := by
    intro b o k n h0 hm
    simp only [Instr.indexAt, asIntOf, Sem.run_bind, Sem.run_pure, Result.andThen, run_underlying hu, Instr.sureAddr]
    rw [if_pos ⟨h0, hm⟩]
    simp [hz, addr_add]
  cases i with
  | int k n =>
    cases hi
    cases x with
    | ptr l off =>
      simp only [evP] at h
      split at h
      · rename_i hc
        injection h with h
        subst h
        cases hx with
        | ptr _ _ B hB => exact ⟨_, hrun _ _ _ _ hc.1 hc.2, .ptr _ _ _ hB⟩
      · cases h
    | rptr u =>
      cases u <;> simp [evP] at h
      obtain ⟨hc, v', hp, rfl⟩ := h
      obtain ⟨b, o, rfl, h1, h2⟩ := rptr_full hx
      exact ⟨_, hrun _ _ _ _ hc.1 hc.2, rptr_part h1 h2 hp⟩
    | _ => simp [evP] at h
  | _ => cases x <;> simp [evP] at h <;> (rename_i u _; cases u <;> simp [evP] at h)

theorem idxArrV_sound {P : Program} {G : Gh} {w : World} {t e : TypeId} {m : Nat} {sz : Option Nat} {x i v : AV} {y iy : Value} (hu : P.underlying t = some (.array m e)) (hs : szOf P e = some sz) (h : evP (.idxArrV m sz) [x, i] = some v) (hx : VRel G w x y) (hi : VRel G w i iy) :
    ∃ u, (Instr.index t y iy).run P w = .ok u w ∧ VRel G w v u := by
  obtain ⟨_, hz, hpos⟩ := szOf_run hs w
  cases x <;> cases i <;> simp [evP] at h
  cases hi
  cases hx with
  | agg _ us a1 a2 a3 =>
    obtain ⟨hc, hp⟩ := h
    obtain ⟨u, q1, q2⟩ := partA_sound hs hp (.agg _ us a1 a2 a3)
    refine ⟨u, ?_, q2⟩
    simp only [Instr.index, asIntOf, Sem.run_bind, Sem.run_pure, Result.andThen, run_underlying hu]
    rw [if_pos hc]
    simp [hz, q1]

theorem idxStr_sound {P : Program} {G : Gh} {w : World} {t : TypeId} {x i v : AV} {y iy : Value} (hu : P.underlying t = some .string) (h : evP .idxStr [x, i] = some v) (hx : VRel G w x y) (hi : VRel G w i iy) :
    ∃ u, (Instr.index t y iy).run P w = .ok u w ∧ VRel G w v u := by
  cases x <;> cases i <;> simp [evP] at h
  rename_i l k n
  cases hi
  rw [hx.str_inv]
  obtain ⟨h0, b, hb, rfl⟩ := h
  refine ⟨.int .u8 b.toNat, ?_, .int _ _⟩
  have : (⟨l.toArray⟩ : ByteArray)[n.toNat]? = some b := by
    have hl := (List.getElem?_eq_some_iff.1 hb).1
    have hs : n.toNat < (⟨l.toArray⟩ : ByteArray).size := by simpa [ByteArray.size] using hl
    rw [getElem?_pos (⟨l.toArray⟩ : ByteArray) n.toNat hs]
    show some (l.toArray[n.toNat]'_) = _
    simp [(List.getElem?_eq_some_iff.1 hb).2]
  simp only [Instr.index, asIntOf, Sem.run_bind, Sem.run_pure, Result.andThen, run_underlying hu]
  rw [if_pos h0, this]
  rfl

end Go.Am

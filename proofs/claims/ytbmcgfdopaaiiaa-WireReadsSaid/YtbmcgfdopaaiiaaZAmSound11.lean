/- The abstract machine's operations are sound: all of them, as the model runs them. -/
import Derived.Test.YtbmcgfdopaaiiaaZAmSound10
set_option linter.all false
namespace Go.Am

/-- What an operation leaves: a value (or none), a world, the relation. -/
def NOk (P : Program) (G : Gh) (w : World) (st : St) (s : Sem Next) (v : AV) (st' : St) : Prop :=
  ∃ nx y w' G', s.run P w = .ok nx w' ∧ (nx = .value y ∨ (nx = .skip ∧ y = undef)) ∧ Inv G' w' st' ∧ Ext G w G' w' st.heap.length st.toks.length ∧ VRel G' w' v y

theorem SOk.next {P : Program} {G : Gh} {w : World} {st : St} {s : Sem Value} {v : AV} {st' : St} (h : SOk P G w st s v st') : NOk P G w st (do pure (.value (← s))) v st' := by
  obtain ⟨y, w', G', h1, h2, h3, h4⟩ := h
  exact ⟨.value y, y, w', G', by simp [h1], .inl rfl, h2, h3, h4⟩

theorem NOk.same {P : Program} {G : Gh} {w : World} {st : St} {s : Sem Value} {v : AV} (hI : Inv G w st) (h : ∃ u, s.run P w = .ok u w ∧ VRel G w v u) : NOk P G w st (do pure (.value (← s))) v st := by
  obtain ⟨u, h1, h2⟩ := h
  exact (SOk.same hI h1 h2).next

theorem ListRel.one {G : Gh} {w : World} {xs : List AV} {y : Value} (h : ListRel G w xs [y]) : ∃ x, xs = [x] ∧ VRel G w x y := by
  obtain ⟨x, xs', rfl, hx, hr⟩ := h.cons_inv
  rw [hr.nil_inv]
  exact ⟨x, rfl, hx⟩

theorem ListRel.two {G : Gh} {w : World} {xs : List AV} {y z : Value} (h : ListRel G w xs [y, z]) : ∃ x x', xs = [x, x'] ∧ VRel G w x y ∧ VRel G w x' z := by
  obtain ⟨x, xs', rfl, hx, hr⟩ := h.cons_inv
  obtain ⟨x', rfl, hx'⟩ := hr.one
  exact ⟨x, x', rfl, hx, hx'⟩

theorem ListRel.three {G : Gh} {w : World} {xs : List AV} {y z u : Value} (h : ListRel G w xs [y, z, u]) : ∃ x x' x'', xs = [x, x', x''] ∧ VRel G w x y ∧ VRel G w x' z ∧ VRel G w x'' u := by
  obtain ⟨x, xs', rfl, hx, hr⟩ := h.cons_inv
  obtain ⟨x', x'', rfl, hx', hx''⟩ := hr.two
  exact ⟨x, x', x'', rfl, hx, hx', hx''⟩

theorem evA_pure {op : AOp} {args : List AV} {st st' : St} {v : AV} (hc : op.cls = .pure) (h : evA op args st = some (v, st')) : evP op args = some v ∧ st' = st := by
  simp only [evA, hc] at h
  cases hp : evP op args with
  | none => simp [hp] at h
  | some u => simp [hp] at h; exact ⟨by rw [h.1], h.2.symm⟩

theorem evA_read {op : AOp} {args : List AV} {st st' : St} {v : AV} (hc : op.cls = .read) (h : evA op args st = some (v, st')) : evR op args st = some v ∧ st' = st := by
  simp only [evA, hc] at h
  cases hp : evR op args st with
  | none => simp [hp] at h
  | some u => simp [hp] at h; exact ⟨by rw [h.1], h.2.symm⟩

/-- Values that are neither nil interfaces nor structs are compared as they are; structs, where their type holds no interface. -/
theorem eqGuard_key {P : Program} {G : Gh} {w : World} {op : BinOp} {t : TypeId} {x y : Operand} {a b : AV} {ya yb : Value} (K : EqK) (hK : eqKindOf P t = K)
    (h : (isAny a = true ∨ isAny b = true ∨ (isAggV a = true ∧ isAggV b = true)) → ∃ r, eqKind K a b = some r) (ha : VRel G w a ya) (hb : VRel G w b yb) : (eqGuard op t x y ya yb).run P w = .ok () w := by
  have hag : isAggV a = true → isAggV b = true → P.eqGuardType P.depth t = false := by
    intro e1 e2
    obtain ⟨r, hr⟩ := h (.inr (.inr ⟨e1, e2⟩))
    cases K with
    | none => simp [eqKind] at hr
    | bool => cases a <;> simp [isAggV] at e1; simp [eqKind] at hr
    | ptr => cases a <;> simp [isAggV] at e1; simp [eqKind, isNilAddr] at hr
    | flat ks =>
      have := eqKindOf_flat hK
      unfold flatEq at this
      split at this
      all_goals first
        | (cases this; done)
        | (split at this
           · rename_i hc
             simpa using hc
           · cases this)
  have hany : isAny a = true → False := by
    intro e1
    obtain ⟨r, hr⟩ := h (.inl e1)
    cases a <;> simp [isAny] at e1
    cases K <;> simp [eqKind, isNilAddr] at hr
  have hanyb : isAny b = true → False := by
    intro e1
    obtain ⟨r, hr⟩ := h (.inr (.inl e1))
    cases b <;> simp [isAny] at e1
    cases K <;> cases a <;> simp [eqKind, isNilAddr] at hr
  cases op <;> first | rfl | skip
  all_goals
    cases ha with
    | any => exact (hany rfl).elim
    | agg cs vs a1 a2 a3 =>
      cases hb with
      | any => exact (hanyb rfl).elim
      | agg ds us b1 b2 b3 => simp [eqGuard, hag rfl rfl]
      | _ => rfl
    | _ => first | rfl | (cases hb <;> first | rfl | exact (hanyb rfl).elim)

theorem eqGuard_run {P : Program} {G : Gh} {w : World} {op : BinOp} {t : TypeId} {x y : Operand} {a b v : AV} {ya yb : Value} (h : binA op (eqKindOf P t) a b = some v) (ha : VRel G w a ya) (hb : VRel G w b yb) : (eqGuard op t x y ya yb).run P w = .ok () w := by
  have hno : ∀ op : BinOp, op ≠ .eql → op ≠ .neq → (eqGuard op t x y ya yb).run P w = .ok () w := by
    intro op h1 h2
    cases op <;> first | rfl | exact absurd rfl h1 | exact absurd rfl h2
  by_cases h1 : op = .eql
  · subst h1
    exact eqGuard_key (eqKindOf P t) rfl (by
      intro hag
      cases hk : eqKind (eqKindOf P t) a b with
      | none => cases ha <;> cases hb <;> simp [binA, hk] at h <;> simp [isAny, isAggV] at hag
      | some r => exact ⟨r, rfl⟩) ha hb
  · by_cases h2 : op = .neq
    · subst h2
      exact eqGuard_key (eqKindOf P t) rfl (by
        intro hag
        cases hk : eqKind (eqKindOf P t) a b with
        | none => cases ha <;> cases hb <;> simp [binA, hk] at h <;> simp [isAny, isAggV] at hag
        | some r => exact ⟨r, rfl⟩) ha hb
    · exact hno op h1 h2


theorem map_two {ρ : Operand → Value} {a b : Operand} : [a, b].map ρ = [ρ a, ρ b] := rfl

theorem mfn_rel {G : Gh} {w : World} {vs : List AV} {n : Nat} {f : Fn} {xs ys : Array Value} (hn : n = xs.size) (h : ListRel G w vs (xs.toList ++ ys.toList)) : VRel G w (.fn f (vs.take n) (vs.drop n)) (.func f xs ys) := by
  have hl : vs.length = xs.size + ys.size := by have := h.1; simpa using this
  refine .fn f _ _ xs ys (by simp; omega) (by simp; omega) (fun i c v hc hv => ?_) (fun i c v hc hv => ?_)
  · rw [List.getElem?_take] at hc
    split at hc
    · have hlt := (Array.getElem?_eq_some_iff.1 hv).1
      refine h.2 i c v hc ?_
      rw [List.getElem?_append_left (by simpa using hlt)]
      simpa using hv
    · cases hc
  · rw [List.getElem?_drop] at hc
    refine h.2 (n + i) c v hc ?_
    rw [List.getElem?_append_right (by simp; omega)]
    simp [hn]
    exact hv

theorem value_now {P : Program} {G : Gh} {w : World} {st : St} {v : AV} {y : Value} (hI : Inv G w st) (hv : VRel G w v y) : NOk P G w st (pure (.value y)) v st :=
  ⟨.value y, y, w, G, rfl, .inl rfl, hI, Ext.refl _ _ _ _, hv⟩

theorem snd_move {P : Program} {G : Gh} {w : World} {st st' : St} {ρ : Operand → Value} {op : AOp} {xs : List Operand} {avs : List AV} {v : AV} {x : Operand} (hI : Inv G w st) (hc : compP P (.move x) = some (.prim op, xs)) (hr : ListRel G w avs (xs.map ρ)) (he : evA op avs st = some (v, st')) :
    NOk P G w st (pure (.value (ρ x))) v st' := by
  simp only [compP] at hc
  simp only [Option.some.injEq, Prod.mk.injEq, Kind.prim.injEq] at hc
  obtain ⟨rfl, rfl⟩ := hc
  obtain ⟨a, rfl, ha⟩ := hr.one
  obtain ⟨h1, rfl⟩ := evA_pure rfl he
  simp only [evP, Option.some.injEq] at h1
  subst h1
  exact value_now hI ha

theorem snd_assign {P : Program} {G : Gh} {w : World} {st st' : St} {ρ : Operand → Value} {op : AOp} {xs : List Operand} {avs : List AV} {v : AV} {x : Operand} (hI : Inv G w st) (hc : compP P (.assign x) = some (.prim op, xs)) (hr : ListRel G w avs (xs.map ρ)) (he : evA op avs st = some (v, st')) :
    NOk P G w st (pure (.value (ρ x))) v st' := by
  simp only [compP] at hc
  simp only [Option.some.injEq, Prod.mk.injEq, Kind.prim.injEq] at hc
  obtain ⟨rfl, rfl⟩ := hc
  obtain ⟨a, rfl, ha⟩ := hr.one
  obtain ⟨h1, rfl⟩ := evA_pure rfl he
  simp only [evP, Option.some.injEq] at h1
  subst h1
  exact value_now hI ha

theorem snd_pick {P : Program} {G : Gh} {w : World} {st st' : St} {ρ : Operand → Value} {op : AOp} {xs : List Operand} {avs : List AV} {v : AV} {c x y : Operand} (hI : Inv G w st) (hc : compP P (.pick c x y) = some (.prim op, xs)) (hr : ListRel G w avs (xs.map ρ)) (he : evA op avs st = some (v, st')) :
    NOk P G w st (do pure (.value (if ← asBool (ρ c) then ρ x else ρ y))) v st' := by
  simp only [compP] at hc
  simp only [Option.some.injEq, Prod.mk.injEq, Kind.prim.injEq] at hc
  obtain ⟨rfl, rfl⟩ := hc
  obtain ⟨a, b, c', rfl, ha, hb, hc'⟩ := hr.three
  obtain ⟨h1, rfl⟩ := evA_pure rfl he
  cases a <;> simp [evP] at h1
  subst h1
  generalize hyc : ρ c = yc at ha
  cases ha
  rename_i bb
  refine ⟨_, if bb then ρ x else ρ y, w, G, by simp [asBool], .inl rfl, hI, Ext.refl _ _ _ _, ?_⟩
  cases bb <;> assumption

theorem snd_alloc {P : Program} {G : Gh} {w : World} {st st' : St} {ρ : Operand → Value} {op : AOp} {xs : List Operand} {avs : List AV} {v : AV} {t : TypeId} (hI : Inv G w st) (hc : compP P (.alloc t) = some (.prim op, xs)) (hr : ListRel G w avs (xs.map ρ)) (he : evA op avs st = some (v, st')) :
    NOk P G w st (do pure (.value (← Instr.alloc t true (.tuple #[])))) v st' := by
  simp only [compP] at hc
  cases hs : szOf P t with
  | none => simp [hs] at hc
  | some sz =>
    cases hz : zeroA P t with
    | none => simp [hs, hz] at hc
    | some z =>
      simp only [hs, hz, Option.bind_some, Option.some.injEq, Prod.mk.injEq, Kind.prim.injEq] at hc
      obtain ⟨rfl, rfl⟩ := hc
      have := hr.nil_inv
      subst this
      simp only [evA, AOp.cls, evW, Option.some.injEq, Prod.mk.injEq] at he
      obtain ⟨rfl, rfl⟩ := he
      exact (alloc_sound hI hz).next

theorem snd_box {P : Program} {G : Gh} {w : World} {st st' : St} {ρ : Operand → Value} {op : AOp} {xs : List Operand} {avs : List AV} {v : AV} {t : TypeId} {x : Operand} (hI : Inv G w st) (hc : compP P (.box t x) = some (.prim op, xs)) (hr : ListRel G w avs (xs.map ρ)) (he : evA op avs st = some (v, st')) :
    NOk P G w st (do pure (.value (← Instr.box t (ρ x)))) v st' := by
  simp only [compP] at hc
  cases hs : szOf P t with
  | none => simp [hs] at hc
  | some sz =>
    simp only [hs, Option.bind_some, Option.some.injEq, Prod.mk.injEq, Kind.prim.injEq] at hc
    obtain ⟨rfl, rfl⟩ := hc
    obtain ⟨a, rfl, ha⟩ := hr.one
    simp only [evA, AOp.cls, evW] at he
    split at he
    · rename_i hsh
      simp only [Option.some.injEq, Prod.mk.injEq] at he
      obtain ⟨rfl, rfl⟩ := he
      exact (box_sound hI ha hsh).next
    · cases he

theorem snd_build {P : Program} {G : Gh} {w : World} {st st' : St} {ρ : Operand → Value} {op : AOp} {xs : List Operand} {avs : List AV} {v : AV} {t : TypeId} {parts : Array (Nat × Operand)} (hI : Inv G w st) (hc : compP P (.build t parts) = some (.prim op, xs)) (hr : ListRel G w avs (xs.map ρ)) (he : evA op avs st = some (v, st')) :
    NOk P G w st (do pure (.value (← Instr.build t (parts.map fun (i, x) => (i, ρ x))))) v st' := by
  simp only [compP] at hc
  split at hc
  · rename_i fs z hu hz
    split at hc
    · cases hc
    · rename_i hall
      cases hps : parts.toList.mapM (fun p => (fs[p.1]?).bind fun f => (szOf P f.type).map fun s => (f.offset, s.getD 1)) with
      | none => simp [hps] at hc
      | some ps =>
        simp only [hps, Option.bind_some, Option.some.injEq, Prod.mk.injEq, Kind.prim.injEq] at hc
        obtain ⟨rfl, rfl⟩ := hc
        obtain ⟨h1, rfl⟩ := evA_pure rfl he
        refine NOk.same hI ?_
        refine build_struct_sound (parts := parts.map fun (i, x) => (i, ρ x)) hu hz (by simpa only [Bool.not_eq_false] using hall) (ps := ps) ?_ h1 (by simpa [Function.comp_def] using hr)
        rw [← hps]
        simp [List.mapM_map, Function.comp_def]
  · rename_i n e z hu hz
    cases hs : szOf P e with
    | none => simp [hs] at hc
    | some s =>
      simp only [hs, Option.bind_some, Option.some.injEq, Prod.mk.injEq, Kind.prim.injEq] at hc
      obtain ⟨rfl, rfl⟩ := hc
      obtain ⟨h1, rfl⟩ := evA_pure rfl he
      refine NOk.same hI ?_
      refine build_array_sound (parts := parts.map fun (i, x) => (i, ρ x)) hu hz hs (v := v) (vs := avs) ?_ (by simpa [Function.comp_def] using hr)
      rw [← h1]
      simp [Function.comp_def]
  · cases hc

theorem snd_buildSlice {P : Program} {G : Gh} {w : World} {st st' : St} {ρ : Operand → Value} {op : AOp} {xs : List Operand} {avs : List AV} {v : AV} {t : TypeId} {n : Nat} {parts : Array (Nat × Operand)} (hI : Inv G w st) (hc : compP P (.buildSlice t n parts) = some (.prim op, xs)) (hr : ListRel G w avs (xs.map ρ)) (he : evA op avs st = some (v, st')) :
    NOk P G w st (do pure (.value (← Instr.buildSlice t n (parts.map fun (i, x) => (i, ρ x))))) v st' := by
  simp only [compP] at hc
  cases hel : elemOfA P t with
  | none => simp [hel] at hc
  | some e =>
    cases hs : szOf P e with
    | none => simp [hel, hs] at hc
    | some sz =>
      simp only [hel, hs, Option.bind_some] at hc
      split at hc
      · rename_i hcond
        simp only [Option.some.injEq, Prod.mk.injEq, Kind.prim.injEq] at hc
        obtain ⟨rfl, rfl⟩ := hc
        obtain ⟨h1, rfl⟩ := evA_pure rfl he
        obtain ⟨c1, c2, c3⟩ := hcond
        have key : ∀ (ps : Array (Nat × Value)), ps.toList.map (·.1) = List.range n → ListRel G w avs (ps.toList.map (·.2)) → SOk P G w st' (Instr.buildSlice t n ps) v st' := fun ps p1 p2 => buildSl_sound hI (elemOfA_u hel) hs p1 c2 c3 h1 p2
        refine SOk.next (key _ ?_ ?_)
        · rw [← c1]; simp [Function.comp_def]
        · simpa [Function.comp_def] using hr
      · cases hc

theorem snd_load {P : Program} {G : Gh} {w : World} {st st' : St} {ρ : Operand → Value} {op : AOp} {xs : List Operand} {avs : List AV} {v : AV} {t : TypeId} {a : Operand} (hI : Inv G w st) (hc : compP P (.load t a) = some (.prim op, xs)) (hr : ListRel G w avs (xs.map ρ)) (he : evA op avs st = some (v, st')) :
    NOk P G w st (do pure (.value (← Instr.loadAt t (ρ a)))) v st' := by
  simp only [compP] at hc
  cases hs : szOf P t with
  | none => simp [hs] at hc
  | some sz =>
    simp only [hs, Option.bind_some, Option.some.injEq, Prod.mk.injEq, Kind.prim.injEq] at hc
    obtain ⟨rfl, rfl⟩ := hc
    obtain ⟨a, rfl, ha⟩ := hr.one
    obtain ⟨h1, rfl⟩ := evA_read rfl he
    exact NOk.same hI (load_sound hs hI ha h1)

theorem snd_store {P : Program} {G : Gh} {w : World} {st st' : St} {ρ : Operand → Value} {op : AOp} {xs : List Operand} {avs : List AV} {v : AV} {t : TypeId} {a x : Operand} (hI : Inv G w st) (hc : compP P (.store t a x) = some (.prim op, xs)) (hr : ListRel G w avs (xs.map ρ)) (he : evA op avs st = some (v, st')) :
    NOk P G w st (do Instr.storeAt t (ρ a) (ρ x); pure .skip) v st' := by
  simp only [compP] at hc
  cases hs : szOf P t with
  | none => simp [hs] at hc
  | some sz =>
    simp only [hs, Option.bind_some, Option.some.injEq, Prod.mk.injEq, Kind.prim.injEq] at hc
    obtain ⟨rfl, rfl⟩ := hc
    obtain ⟨a, b, rfl, ha, hb⟩ := hr.two
    obtain ⟨rfl, w', h1, h2, h3⟩ := store_sound hs hI ha hb he
    exact ⟨.skip, undef, w', G, by simp [h1], .inr ⟨rfl, rfl⟩, h2, h3, .tup _ _ rfl (by simp)⟩

theorem snd_binOp {P : Program} {G : Gh} {w : World} {st st' : St} {ρ : Operand → Value} {op : AOp} {xs : List Operand} {avs : List AV} {v : AV} {b : BinOp} {t t2 : TypeId} {x y : Operand} (hI : Inv G w st) (hc : compP P (.binOp b t x y t2) = some (.prim op, xs)) (hr : ListRel G w avs (xs.map ρ)) (he : evA op avs st = some (v, st')) :
    NOk P G w st (do pure (.value (← (do eqGuard b t x y (ρ x) (ρ y); binOp b t (ρ x) (ρ y))))) v st' := by
  simp only [compP] at hc
  simp only [Option.some.injEq, Prod.mk.injEq, Kind.prim.injEq] at hc
  obtain ⟨rfl, rfl⟩ := hc
  obtain ⟨a, c, rfl, ha, hb⟩ := hr.two
  obtain ⟨h1, rfl⟩ := evA_pure rfl he
  simp only [evP] at h1
  obtain ⟨u, h2, h3⟩ := binA_sound h1 ha hb
  exact NOk.same hI ⟨u, by simp [eqGuard_run h1 ha hb, h2], h3⟩

theorem snd_unOp {P : Program} {G : Gh} {w : World} {st st' : St} {ρ : Operand → Value} {op : AOp} {xs : List Operand} {avs : List AV} {v : AV} {b : UnOp} {t : TypeId} {x : Operand} (hI : Inv G w st) (hc : compP P (.unOp b t x) = some (.prim op, xs)) (hr : ListRel G w avs (xs.map ρ)) (he : evA op avs st = some (v, st')) :
    NOk P G w st (do pure (.value (← Op.unary b (ρ x)))) v st' := by
  simp only [compP] at hc
  simp only [Option.some.injEq, Prod.mk.injEq, Kind.prim.injEq] at hc
  obtain ⟨rfl, rfl⟩ := hc
  obtain ⟨a, rfl, ha⟩ := hr.one
  obtain ⟨h1, rfl⟩ := evA_pure rfl he
  simp only [evP] at h1
  exact NOk.same hI (unA_sound h1 ha)

theorem snd_extract {P : Program} {G : Gh} {w : World} {st st' : St} {ρ : Operand → Value} {op : AOp} {xs : List Operand} {avs : List AV} {v : AV} {x : Operand} {i : Nat} (hI : Inv G w st) (hc : compP P (.extract x i) = some (.prim op, xs)) (hr : ListRel G w avs (xs.map ρ)) (he : evA op avs st = some (v, st')) :
    NOk P G w st (do pure (.value (← Instr.extract (ρ x) i))) v st' := by
  simp only [compP] at hc
  simp only [Option.some.injEq, Prod.mk.injEq, Kind.prim.injEq] at hc
  obtain ⟨rfl, rfl⟩ := hc
  obtain ⟨a, rfl, ha⟩ := hr.one
  obtain ⟨h1, rfl⟩ := evA_pure rfl he
  cases a <;> simp [evP] at h1
  rename_i vs
  generalize ρ x = y at ha
  cases ha with
  | tup _ us k1 k2 =>
    have hlt := (List.getElem?_eq_some_iff.1 h1).1
    have hu : us[i]? = some us[i] := by simp [(by omega : i < us.size)]
    exact NOk.same hI ⟨us[i], by simp [Instr.extract, hu], k2 i v _ h1 hu⟩

theorem snd_field {P : Program} {G : Gh} {w : World} {st st' : St} {ρ : Operand → Value} {op : AOp} {xs : List Operand} {avs : List AV} {v : AV} {t : TypeId} {x : Operand} {i : Nat} (hI : Inv G w st) (hc : compP P (.field t x i) = some (.prim op, xs)) (hr : ListRel G w avs (xs.map ρ)) (he : evA op avs st = some (v, st')) :
    NOk P G w st (do pure (.value (← Instr.field t (ρ x) i))) v st' := by
  simp only [compP] at hc
  cases hf : fieldOf P t i with
  | none => simp [hf] at hc
  | some p =>
    obtain ⟨off, sz⟩ := p
    simp only [hf, Option.bind_some, Option.some.injEq, Prod.mk.injEq, Kind.prim.injEq] at hc
    obtain ⟨rfl, rfl⟩ := hc
    obtain ⟨a, rfl, ha⟩ := hr.one
    obtain ⟨h1, rfl⟩ := evA_pure rfl he
    exact NOk.same hI (field_sound hf h1 ha)

theorem snd_fieldAddr {P : Program} {G : Gh} {w : World} {st st' : St} {ρ : Operand → Value} {op : AOp} {xs : List Operand} {avs : List AV} {v : AV} {t : TypeId} {x : Operand} {i : Nat} (hI : Inv G w st) (hc : compP P (.fieldAddr t x i) = some (.prim op, xs)) (hr : ListRel G w avs (xs.map ρ)) (he : evA op avs st = some (v, st')) :
    NOk P G w st (do pure (.value (← Instr.fieldAt t (ρ x) i))) v st' := by
  simp only [compP] at hc
  cases hf : fieldOf P t i with
  | none => simp [hf] at hc
  | some p =>
    obtain ⟨off, sz⟩ := p
    simp only [hf, Option.bind_some, Option.some.injEq, Prod.mk.injEq, Kind.prim.injEq] at hc
    obtain ⟨rfl, rfl⟩ := hc
    obtain ⟨a, rfl, ha⟩ := hr.one
    obtain ⟨h1, rfl⟩ := evA_pure rfl he
    exact NOk.same hI (fieldAddr_sound hf h1 ha)

end Go.Am

/- The abstract machine's operations are sound: all of them, as the model runs them, second part. -/
import Derived.Test.YtbmcgfdopaaiiaaZAmSound11
set_option linter.all false
namespace Go.Am

theorem optsRel {G : Gh} {w : World} {ρ : Operand → Value} {x : Operand} {lo hi mx : Option Operand} {avs : List AV} (hr : ListRel G w avs ((x :: (lo.toList ++ hi.toList ++ mx.toList)).map ρ)) :
    ∃ a bs, avs = a :: bs ∧ VRel G w a (ρ x) ∧ ListRel G w bs ((lo.map ρ).toList ++ (hi.map ρ).toList ++ (mx.map ρ).toList) := by
  simp only [List.map_cons] at hr
  obtain ⟨a, bs, rfl, ha, hb⟩ := hr.cons_inv
  refine ⟨a, bs, rfl, ha, ?_⟩
  have : (lo.toList ++ hi.toList ++ mx.toList).map ρ = (lo.map ρ).toList ++ (hi.map ρ).toList ++ (mx.map ρ).toList := by
    cases lo <;> cases hi <;> cases mx <;> rfl
  rw [this] at hb
  exact hb

theorem snd_nilCheck {P : Program} {G : Gh} {w : World} {st st' : St} {ρ : Operand → Value} {op : AOp} {xs : List Operand} {avs : List AV} {v : AV} {x : Operand} (hI : Inv G w st) (hc : compP P (.nilCheck x) = some (.prim op, xs)) (hr : ListRel G w avs (xs.map ρ)) (he : evA op avs st = some (v, st')) :
    NOk P G w st ((execOp ρ ⟨none, .nilCheck x, 0, "", #[], none⟩)) v st' := by
  simp only [compP] at hc
  simp only [Option.some.injEq, Prod.mk.injEq, Kind.prim.injEq] at hc
  obtain ⟨rfl, rfl⟩ := hc
  obtain ⟨a, rfl, ha⟩ := hr.one
  obtain ⟨h1, rfl⟩ := evA_pure rfl he
  simp only [execOp]
  generalize ρ x = y at ha
  simp only [evP] at h1
  unfold nilcA at h1
  split at h1 <;> first | (cases h1; done) | skip
  all_goals
    injection h1 with h1; subst h1
    have ha' := ha
    cases ha
    exact value_now hI ha'

theorem snd_indexAddr {P : Program} {G : Gh} {w : World} {st st' : St} {ρ : Operand → Value} {op : AOp} {xs : List Operand} {avs : List AV} {v : AV} {t : TypeId} {x i : Operand} (hI : Inv G w st) (hc : compP P (.indexAddr t x i) = some (.prim op, xs)) (hr : ListRel G w avs (xs.map ρ)) (he : evA op avs st = some (v, st')) :
    NOk P G w st (do pure (.value (← Instr.indexAt t (ρ x) (ρ i)))) v st' := by
  simp only [compP] at hc
  split at hc
  · rename_i e hu
    cases hs : szOf P e with
    | none => simp [hs] at hc
    | some sz =>
      rw [hs] at hc
      simp only [Option.bind_some, Option.some.injEq, Prod.mk.injEq, Kind.prim.injEq] at hc
      obtain ⟨rfl, rfl⟩ := hc
      obtain ⟨a, c, rfl, ha, hb⟩ := hr.two
      obtain ⟨h1, rfl⟩ := evA_pure rfl he
      exact NOk.same hI (idxSl_sound hu hs hI h1 ha hb)
  · rename_i n e hu
    cases hs : szOf P e with
    | none => simp [hs] at hc
    | some sz =>
      rw [hs] at hc
      simp only [Option.bind_some, Option.some.injEq, Prod.mk.injEq, Kind.prim.injEq] at hc
      obtain ⟨rfl, rfl⟩ := hc
      obtain ⟨a, c, rfl, ha, hb⟩ := hr.two
      obtain ⟨h1, rfl⟩ := evA_pure rfl he
      exact NOk.same hI (idxArr_sound hu hs hI h1 ha hb)
  · cases hc

theorem snd_index {P : Program} {G : Gh} {w : World} {st st' : St} {ρ : Operand → Value} {op : AOp} {xs : List Operand} {avs : List AV} {v : AV} {t : TypeId} {x i : Operand} (hI : Inv G w st) (hc : compP P (.index t x i) = some (.prim op, xs)) (hr : ListRel G w avs (xs.map ρ)) (he : evA op avs st = some (v, st')) :
    NOk P G w st (do pure (.value (← Instr.index t (ρ x) (ρ i)))) v st' := by
  simp only [compP] at hc
  split at hc
  · rename_i n e hu
    cases hs : szOf P e with
    | none => simp [hs] at hc
    | some sz =>
      rw [hs] at hc
      simp only [Option.bind_some, Option.some.injEq, Prod.mk.injEq, Kind.prim.injEq] at hc
      obtain ⟨rfl, rfl⟩ := hc
      obtain ⟨a, c, rfl, ha, hb⟩ := hr.two
      obtain ⟨h1, rfl⟩ := evA_pure rfl he
      exact NOk.same hI (idxArrV_sound hu hs h1 ha hb)
  · rename_i hu
    simp only [Option.some.injEq, Prod.mk.injEq, Kind.prim.injEq] at hc
    obtain ⟨rfl, rfl⟩ := hc
    obtain ⟨a, c, rfl, ha, hb⟩ := hr.two
    obtain ⟨h1, rfl⟩ := evA_pure rfl he
    exact NOk.same hI (idxStr_sound hu h1 ha hb)
  · cases hc

theorem snd_slice {P : Program} {G : Gh} {w : World} {st st' : St} {ρ : Operand → Value} {op : AOp} {xs : List Operand} {avs : List AV} {v : AV} {t : TypeId} {x : Operand} {lo hi mx : Option Operand} (hI : Inv G w st) (hc : compP P (.slice t x lo hi mx) = some (.prim op, xs)) (hr : ListRel G w avs (xs.map ρ)) (he : evA op avs st = some (v, st')) :
    NOk P G w st (do pure (.value (← Instr.sliceAt t (ρ x) (lo.map ρ) (hi.map ρ) (mx.map ρ)))) v st' := by
  simp only [compP] at hc
  have f1 : (lo.map ρ).isSome = lo.isSome := by cases lo <;> rfl
  have f2 : (hi.map ρ).isSome = hi.isSome := by cases hi <;> rfl
  have f3 : (mx.map ρ).isSome = mx.isSome := by cases mx <;> rfl
  split at hc
  · rename_i hu
    cases mx with
    | some m => simp at hc
    | none =>
      simp only [Option.isNone_none, if_true, Option.some.injEq, Prod.mk.injEq, Kind.prim.injEq] at hc
      obtain ⟨rfl, rfl⟩ := hc
      obtain ⟨a, bs, rfl, ha, hb⟩ := optsRel (mx := none) (by simpa using hr)
      obtain ⟨h1, rfl⟩ := evA_pure rfl he
      rw [← f1, ← f2] at h1
      exact NOk.same hI (slcStr_sound hu h1 ha (by simpa using hb))
  · rename_i e hu
    cases hs : szOf P e with
    | none => simp [hs] at hc
    | some sz =>
      rw [hs] at hc
      simp only [Option.bind_some, Option.some.injEq, Prod.mk.injEq, Kind.prim.injEq] at hc
      obtain ⟨rfl, rfl⟩ := hc
      obtain ⟨a, bs, rfl, ha, hb⟩ := optsRel hr
      obtain ⟨h1, rfl⟩ := evA_pure rfl he
      rw [← f1, ← f2, ← f3] at h1
      exact NOk.same hI (slcSl_sound hu hs hI h1 ha hb)
  · rename_i n e hu
    cases mx with
    | some m => simp at hc
    | none =>
      cases hs : szOf P e with
      | none => simp [hs] at hc
      | some sz =>
        rw [hs] at hc
        simp only [Option.isNone_none, if_true, Option.bind_some, Option.some.injEq, Prod.mk.injEq, Kind.prim.injEq] at hc
        obtain ⟨rfl, rfl⟩ := hc
        obtain ⟨a, bs, rfl, ha, hb⟩ := optsRel (mx := none) (by simpa using hr)
        obtain ⟨h1, rfl⟩ := evA_read rfl he
        rw [← f1, ← f2] at h1
        exact (slcArr_sound hI hu hs h1 ha (by simpa using hb)).next
  · cases hc

theorem snd_convert {P : Program} {G : Gh} {w : World} {st st' : St} {ρ : Operand → Value} {op : AOp} {xs : List Operand} {avs : List AV} {v : AV} {s d : TypeId} {x : Operand} (hI : Inv G w st) (hc : compP P (.convert s d x) = some (.prim op, xs)) (hr : ListRel G w avs (xs.map ρ)) (he : evA op avs st = some (v, st')) :
    NOk P G w st (do pure (.value (← convert s d (ρ x)))) v st' := by
  simp only [compP] at hc
  split at hc
  · rename_i j k hs hd
    simp only [Option.some.injEq, Prod.mk.injEq, Kind.prim.injEq] at hc
    obtain ⟨rfl, rfl⟩ := hc
    obtain ⟨a, rfl, ha⟩ := hr.one
    obtain ⟨h1, rfl⟩ := evA_pure rfl he
    exact NOk.same hI (conv_sound hs hd h1 ha)
  · rename_i hs hd
    simp only [Option.some.injEq, Prod.mk.injEq, Kind.prim.injEq] at hc
    obtain ⟨rfl, rfl⟩ := hc
    obtain ⟨a, rfl, ha⟩ := hr.one
    obtain ⟨h1, rfl⟩ := evA_pure rfl he
    cases a <;> simp [evP] at h1
    subst h1
    rename_i l
    refine NOk.same hI ⟨ρ x, ?_, ha⟩
    rw [ha.str_inv]
    simp [convert, run_underlying hs, run_underlying hd]
  · rename_i e hs hd
    split at hc
    · rename_i hu8
      simp only [Option.some.injEq, Prod.mk.injEq, Kind.prim.injEq] at hc
      obtain ⟨rfl, rfl⟩ := hc
      obtain ⟨a, rfl, ha⟩ := hr.one
      obtain ⟨h1, rfl⟩ := evA_read rfl he
      exact NOk.same hI (strOf_sound hI hs hu8 hd h1 ha)
    · cases hc
  · rename_i e hs hd
    split at hc
    · rename_i hu8
      simp only [Bool.and_eq_true] at hu8
      simp only [Option.some.injEq, Prod.mk.injEq, Kind.prim.injEq] at hc
      obtain ⟨rfl, rfl⟩ := hc
      obtain ⟨a, rfl, ha⟩ := hr.one
      obtain ⟨h1, rfl⟩ := evA_pure rfl he
      exact (bytesOf_sound hI hs hd hu8.1 h1 ha).next
    · cases hc
  · cases hc

theorem snd_makeFunc {P : Program} {G : Gh} {w : World} {st st' : St} {ρ : Operand → Value} {op : AOp} {xs : List Operand} {avs : List AV} {v : AV} {f : Fn} {first captured : Array Operand} (hI : Inv G w st) (hc : compP P (.makeFunc f first captured) = some (.prim op, xs)) (hr : ListRel G w avs (xs.map ρ)) (he : evA op avs st = some (v, st')) :
    NOk P G w st (do pure (.value (← Instr.makeFunc f (first.map ρ) (captured.map ρ)))) v st' := by
  simp only [compP] at hc
  simp only [Option.some.injEq, Prod.mk.injEq, Kind.prim.injEq] at hc
  obtain ⟨rfl, rfl⟩ := hc
  obtain ⟨h1, rfl⟩ := evA_pure rfl he
  simp only [evP, Option.some.injEq] at h1
  subst h1
  refine NOk.same hI ⟨_, rfl, ?_⟩
  have := mfn_rel (G := G) (w := w) (vs := avs) (n := first.size) (f := f) (xs := first.map ρ) (ys := captured.map ρ) (by simp) (by simpa using hr)
  exact this

theorem snd_makeSlice {P : Program} {G : Gh} {w : World} {st st' : St} {ρ : Operand → Value} {op : AOp} {xs : List Operand} {avs : List AV} {v : AV} {t : TypeId} {l c : Operand} (hI : Inv G w st) (hc : compP P (.makeSlice t l c) = some (.prim op, xs)) (hr : ListRel G w avs (xs.map ρ)) (he : evA op avs st = some (v, st')) :
    NOk P G w st (do pure (.value (← Instr.makeSlice t (ρ l) (ρ c)))) v st' := by
  simp only [compP] at hc
  cases hel : elemOfA P t with
  | none => simp [hel] at hc
  | some e =>
    cases hs : szOf P e with
    | none => simp [hel, hs] at hc
    | some sz =>
      cases hz : zeroA P e with
      | none => simp [hel, hs, hz] at hc
      | some z =>
        simp only [hel, hs, hz, Option.bind_some] at hc
        split at hc
        · rename_i hcond
          simp only [Bool.and_eq_true, beq_iff_eq] at hcond
          simp only [Option.some.injEq, Prod.mk.injEq, Kind.prim.injEq] at hc
          obtain ⟨rfl, rfl⟩ := hc
          obtain ⟨a, b, rfl, ha, hb⟩ := hr.two
          have h1 : evW (.mkslice sz z.cells) [a, b] st = some (v, st') := he
          exact (mkslice_sound hI (elemOfA_u hel) hs hz hcond.1 hcond.2 h1 ha hb).next
        · cases hc


theorem args_two {ρ : Operand → Value} {args : Array Operand} {a b : Operand} (h : args.toList = [a, b]) : args.map ρ = #[ρ a, ρ b] := by
  have : args = #[a, b] := by apply Array.ext'; simpa using h
  subst this
  simp

theorem args_one {ρ : Operand → Value} {args : Array Operand} {a : Operand} (h : args.toList = [a]) : args.map ρ = #[ρ a] := by
  have : args = #[a] := by apply Array.ext'; simpa using h
  subst this
  simp

theorem builtin_run {P : Program} {ρ : Operand → Value} {b : Builtin} {args : Array Operand} {argTypes : Array TypeId} {ty : TypeId} {s : Sem Value} {w : World} {G : Gh} {st st' : St} {v : AV} (h : ∀ consts, builtin b argTypes ty consts (args.map ρ) = (do pure (.value (← s)))) (hs : SOk P G w st s v st') :
    NOk P G w st (do let d ← resolve ρ { callee := .builtin b, args, argTypes } ty; invoke d.target d.args) v st' := by
  obtain ⟨nx, y, w', G', h1, h2⟩ := hs.next
  refine ⟨nx, y, w', G', ?_, h2⟩
  rw [← h1]
  simp only [resolve, invoke, Sem.run_bind, Sem.run_pure, Result.andThen]
  rw [h]
  simp only [Sem.run_bind]
  rfl

theorem argTypes_get {argTypes : Array TypeId} {t : TypeId} {i : Nat} (h : argTypes[i]? = some t) : i < argTypes.size := (Array.getElem?_eq_some_iff.1 h).1

theorem len_any {P : Program} {w : World} {argTypes : Array TypeId} {ty t : TypeId} {y u : Value} (ht : argTypes[0]? = some t) (h : (Builtin.len_ #[t] ty #[y]).run P w = .ok u w) : (Builtin.len_ argTypes ty #[y]).run P w = .ok u w := by
  rw [← h]
  simp only [Builtin.len_, ht]
  rfl

theorem append_any {P : Program} {w : World} {argTypes : Array TypeId} {ty t tx : TypeId} {y z : Value} (ht : argTypes[0]? = some t) (hx : argTypes[1]? = some tx) : (Builtin.append_ argTypes ty #[y, z]).run P w = (Builtin.append_ #[t, tx] ty #[y, z]).run P w := by
  simp only [Builtin.append_, ht, hx]
  rfl

theorem copy_any {P : Program} {w : World} {argTypes : Array TypeId} {ty t : TypeId} {y z : Value} (ht : argTypes[0]? = some t) : (Builtin.copy_ argTypes ty #[y, z]).run P w = (Builtin.copy_ #[t, t] ty #[y, z]).run P w := by
  simp only [Builtin.copy_, ht]
  rfl

theorem snd_call {P : Program} {G : Gh} {w : World} {st st' : St} {ρ : Operand → Value} {op : AOp} {xs : List Operand} {avs : List AV} {v : AV} {c : Call} {ty : TypeId} (hI : Inv G w st) (hc : compP P (.call c) = some (.prim op, xs)) (hr : ListRel G w avs (xs.map ρ)) (he : evA op avs st = some (v, st')) :
    NOk P G w st (do let d ← resolve ρ c ty; invoke d.target d.args) v st' := by
  obtain ⟨callee, args, argTypes⟩ := c
  cases callee with
  | invoke r m => simp [compP] at hc
  | value f => cases f <;> simp [compP] at hc
  | builtin b =>
    cases b <;> simp only [compP] at hc <;> first | (cases hc; done) | skip
    case append =>
      have key : ∀ (s x : Operand) (t : TypeId), args.toList = [s, x] → argTypes[0]? = some t → (∀ tx, argTypes[1]? = some tx → ((∃ e', P.underlying tx = some (.slice e')) ∨ P.underlying tx = some .string)) → (∃ tx, argTypes[1]? = some tx) →
          ((elemOfA P t).bind fun e => (szOf P e).bind fun sz => if (smallBytes P e && (P.info? e).any (fun i => i.zero.any fun z => z.cells.size == sz.getD 1)) = true then some (Kind.prim (.append sz), [s, x]) else none) = some (.prim op, xs) →
          NOk P G w st (do let d ← resolve ρ { callee := .builtin .append, args, argTypes } ty; invoke d.target d.args) v st' := by
        intro s x t h1 h2 h3 ⟨tx, htx⟩ hc
        cases hel : elemOfA P t with
        | none => simp [hel] at hc
        | some e =>
          cases hs : szOf P e with
          | none => simp [hel, hs] at hc
          | some sz =>
            simp only [hel, hs, Option.bind_some] at hc
            split at hc
            · rename_i hcond
              rw [Bool.and_eq_true] at hcond
              simp only [Option.some.injEq, Prod.mk.injEq, Kind.prim.injEq] at hc
              obtain ⟨rfl, rfl⟩ := hc
              obtain ⟨a, b, rfl, ha, hb⟩ := hr.two
              refine builtin_run (s := Builtin.append_ argTypes ty (args.map ρ)) (fun _ => rfl) ?_
              rw [args_two h1]
              obtain ⟨y, w', G', r1, r2⟩ := append_sound (tx := tx) (ty := ty) hI (elemOfA_u hel) hs hcond.1 hcond.2 (h3 tx htx) he ha hb
              exact ⟨y, w', G', by rw [append_any h2 htx]; exact r1, r2⟩
            · cases hc
      split at hc <;> first | (cases hc; done) | skip
      · rename_i s x t e' h1 h2 h3
        refine key s x t h1 h2 (fun tx htx => ?_) ?_ hc
        · simp [htx] at h3; exact .inl ⟨_, h3⟩
        · cases hh : argTypes[1]? with
          | none => simp [hh] at h3
          | some tx => exact ⟨tx, rfl⟩
      · rename_i s x t h1 h2 h3
        refine key s x t h1 h2 (fun tx htx => ?_) ?_ hc
        · simp [htx] at h3; exact .inr h3
        · cases hh : argTypes[1]? with
          | none => simp [hh] at h3
          | some tx => exact ⟨tx, rfl⟩
    case copy =>
      split at hc <;> first | (cases hc; done) | skip
      rename_i d s t h1 h2
      cases hel : elemOfA P t with
      | none => simp [hel] at hc
      | some e =>
        cases hs : szOf P e with
        | none => simp [hel, hs] at hc
        | some sz =>
          simp only [hel, hs, Option.bind_some, Option.some.injEq, Prod.mk.injEq, Kind.prim.injEq] at hc
          obtain ⟨rfl, rfl⟩ := hc
          obtain ⟨a, b, rfl, ha, hb⟩ := hr.two
          refine builtin_run (s := Builtin.copy_ argTypes ty (args.map ρ)) (fun _ => rfl) ?_
          rw [args_two h1]
          obtain ⟨y, w', G', r1, r2⟩ := copy_sound (tx := t) (ty := ty) hI (elemOfA_u hel) hs he ha hb
          exact ⟨y, w', G', by rw [copy_any h2]; exact r1, r2⟩
    case len =>
      split at hc <;> first | (cases hc; done) | skip
      · rename_i x e h1 h2
        simp only [Option.some.injEq, Prod.mk.injEq, Kind.prim.injEq] at hc
        obtain ⟨rfl, rfl⟩ := hc
        obtain ⟨a, rfl, ha⟩ := hr.one
        obtain ⟨h3, rfl⟩ := evA_pure rfl he
        cases hh : argTypes[0]? with
        | none => simp [hh] at h2
        | some t =>
          simp [hh] at h2
          obtain ⟨u, q1, q2⟩ := len_sound (ty := ty) h2 h3 ha
          refine builtin_run (s := Builtin.len_ argTypes ty (args.map ρ)) (fun _ => rfl) (SOk.same hI ?_ q2)
          rw [args_one h1]
          exact len_any hh q1
      · rename_i x h1 h2
        simp only [Option.some.injEq, Prod.mk.injEq, Kind.prim.injEq] at hc
        obtain ⟨rfl, rfl⟩ := hc
        obtain ⟨a, rfl, ha⟩ := hr.one
        obtain ⟨h3, rfl⟩ := evA_pure rfl he
        cases hh : argTypes[0]? with
        | none => simp [hh] at h2
        | some t =>
          simp [hh] at h2
          obtain ⟨u, q1, q2⟩ := lenStr_sound (ty := ty) h2 h3 ha
          refine builtin_run (s := Builtin.len_ argTypes ty (args.map ρ)) (fun _ => rfl) (SOk.same hI ?_ q2)
          rw [args_one h1]
          exact len_any hh q1
    case max =>
      split at hc <;> first | (cases hc; done) | skip
      rename_i x y h1
      simp only [Option.some.injEq, Prod.mk.injEq, Kind.prim.injEq] at hc
      obtain ⟨rfl, rfl⟩ := hc
      obtain ⟨a, b, rfl, ha, hb⟩ := hr.two
      obtain ⟨h3, rfl⟩ := evA_pure rfl he
      cases a <;> cases b <;> simp [evP] at h3
      obtain ⟨rfl, rfl⟩ := h3
      refine builtin_run (s := Builtin.max_ argTypes ty (args.map ρ)) (fun _ => rfl) ?_
      rw [args_two h1]
      generalize ρ x = yx at ha
      generalize ρ y = yy at hb
      cases ha; cases hb
      exact SOk.same hI (by simp [Builtin.max_, Builtin.max2]) (.int _ _)
    case min =>
      split at hc <;> first | (cases hc; done) | skip
      rename_i x y h1
      simp only [Option.some.injEq, Prod.mk.injEq, Kind.prim.injEq] at hc
      obtain ⟨rfl, rfl⟩ := hc
      obtain ⟨a, b, rfl, ha, hb⟩ := hr.two
      obtain ⟨h3, rfl⟩ := evA_pure rfl he
      cases a <;> cases b <;> simp [evP] at h3
      obtain ⟨rfl, rfl⟩ := h3
      refine builtin_run (s := Builtin.min_ argTypes ty (args.map ρ)) (fun _ => rfl) ?_
      rw [args_two h1]
      generalize ρ x = yx at ha
      generalize ρ y = yy at hb
      cases ha; cases hb
      exact SOk.same hI (by simp [Builtin.min_, Builtin.min2]) (.int _ _)

theorem appendM_sound {P : Program} {G : Gh} {w : World} {st st' : St} {t tx ty e : TypeId} {sz : Option Nat} {x1 x2 v : AV} {y1 y2 : Value} (hI : Inv G w st) (hu : P.underlying t = some (.slice e)) (hs : szOf P e = some sz) (hb : smallBytes P e = true) (hz : (P.info? e).any (fun i => i.zero.any fun z => z.cells.size == sz.getD 1) = true)
    (hk : (∃ e', P.underlying tx = some (.slice e')) ∨ P.underlying tx = some .string) (h : evW (.appendM sz) [x1, x2] st = some (v, st')) (h1 : VRel G w x1 y1) (h2 : VRel G w x2 y2) :
    SOk P G w st (Builtin.append_ #[t, tx] ty #[y1, y2]) v st' := by
  obtain ⟨i, z, hi, hzz, hsz, hzc, hb1, hb2⟩ := elem_facts hs hb hz
  cases x1 with
  | sl tk es =>
    cases tk with
    | clip =>
      cases es with
      | cons _ _ => simp [evW] at h
      | nil =>
        simp only [evW] at h
        cases hsrc : srcEs sz st x2 with
        | none => simp [hsrc] at h
        | some new =>
          rw [hsrc] at h
          simp only [] at h
          split at h
          · rename_i hc
            injection h with h
            injection h with e1 e2
            subst e1; subst e2
            obtain ⟨hall, hpos, hlim⟩ := hc
            obtain ⟨n1, news, hS, n2⟩ := srcOf (P := P) hI h2 hsrc hk
            have hold : srcEs sz st (.sl .clip []) = some [] := by simp [srcEs, allSz]
            obtain ⟨o1, olds, hO, o2⟩ := srcOf (P := P) (tx := t) hI h1 hold (.inl ⟨e, hu⟩)
            have hnl : news.length = new.length * sz.getD 1 := hS.newsLen
            rw [← hsz] at hS hO
            have hol : olds = [] := by have := hO.newsLen; simpa using this
            subst hol
            have hcap : ∃ a, y1 = .slice a 0 0 := by
              cases h1 with
              | slnil => exact ⟨none, rfl⟩
              | slz _ a => exact ⟨some a, rfl⟩
              | sl _ _ b o cap sz' cv q1 q2 q3 q4 q5 => simp [TokOk] at q5; subst q5; exact ⟨_, rfl⟩
            obtain ⟨a, rfl⟩ := hcap
            have hrun := run_append_grow_src (P := P) w t tx ty e i z hu hi hzz a 0 0 [] hO.cellsD y2 new.length news hS (by omega) (by have : new.length ≤ 2147483648 := hlim; omega) (limit_fits (by omega) (by simpa using hlim) hb2)
            have hI' := hI.drawn (w.drawn + 1)
            have hE' := Ext.drawn G w (w.drawn + 1) st.heap.length st.toks.length
            obtain ⟨cap, hcap⟩ : ∃ cap, cap = grownCap w (0 + new.length) 0 e := ⟨_, rfl⟩
            have hgc : new.length ≤ cap := by rw [hcap]; unfold grownCap; simp [Question.cut]
            rw [← hcap] at hrun
            have hnl' : (flat (normL new)).length = new.length * sz.getD 1 := by rw [flat_length (cells_norm_len n1), normL_length]
            have hn2 : ∀ (i : Nat) (c : AV) (u : Value), (flat (normL new))[i]? = some c → news[i]? = some u → VRel G w c u ∧ u.oneCell' = true := fun i c u hc hu => by
              rw [flat_norm, normL_eq, List.getElem?_map] at hc
              cases hx : (flat new)[i]? with
              | none => simp [hx] at hc
              | some c' => simp [hx] at hc; subst hc; obtain ⟨q1, q2⟩ := n2 i c' u hx hu; exact ⟨q1.norm, q2⟩
            have hsize : ((([] : List Value) ++ news).toArray ++ Builtin.zeroCells z.cells (cap - (0 + new.length))).size = cap * sz.getD 1 := by
              simp only [List.nil_append, Array.size_append, List.size_toArray, size_zeroCells, hzc, hnl, Nat.zero_add]
              rw [← Nat.add_mul, Nat.add_sub_cancel' hgc]
            obtain ⟨i1, e1⟩ := hI'.allocMut (.cells ((([] : List Value) ++ news).toArray ++ Builtin.zeroCells z.cells (cap - (0 + new.length))) e) (.cells false (flat (normL new))) (fun G' w' h1 h2 h3 =>
              ⟨_, e, (0, 0), h2, by rw [hnl', hsize]; exact Nat.mul_le_mul_right _ hgc, fun j v x hj hx => by
                have hlt : j < news.length := by rw [hnl, ← hnl']; exact (List.getElem?_eq_some_iff.1 hj).1
                rw [Array.getElem?_append_left (by simpa using hlt)] at hx
                have := hn2 j v x hj (by simpa using hx)
                exact ⟨h1 _ _ (this.1.inv hI hE'), this.2⟩, h3, fun o _ => by simp [World.frozen?, h2]⟩)
            refine ⟨_, _, _, hrun, i1, hE'.trans e1 (Nat.le_refl _) (Nat.le_refl _), ?_⟩
            simp only [Nat.zero_add]
            exact .msl _ _ _ _ w.heap.size cap (cap * sz.getD 1) (by simp [Gh.addRho]) hgc (by
              simp only [Nat.zero_add] at hsize
              simp only [bsize, World.drew, alloc_new, hsize]) (by omega)
          · cases h
    | _ => cases es <;> simp [evW] at h
  | _ => simp [evW] at h

theorem snd_callM {P : Program} {G : Gh} {w : World} {st st' : St} {ρ : Operand → Value} {sz : Option Nat} {xs : List Operand} {avs : List AV} {v : AV} {c : Call} {ty : TypeId} (hI : Inv G w st) (hc : compP P (.call c) = some (.prim (.append sz), xs)) (hr : ListRel G w avs (xs.map ρ)) (he : evA (.appendM sz) avs st = some (v, st')) :
    NOk P G w st (do let d ← resolve ρ c ty; invoke d.target d.args) v st' := by
  obtain ⟨callee, args, argTypes⟩ := c
  cases callee with
  | invoke r m => simp [compP] at hc
  | value f => cases f <;> simp [compP] at hc
  | builtin b =>
    cases b <;> simp only [compP] at hc <;> first | (cases hc; done) | skip
    case append =>
      have key : ∀ (s x : Operand) (t : TypeId), args.toList = [s, x] → argTypes[0]? = some t → (∀ tx, argTypes[1]? = some tx → ((∃ e', P.underlying tx = some (.slice e')) ∨ P.underlying tx = some .string)) → (∃ tx, argTypes[1]? = some tx) →
          ((elemOfA P t).bind fun e => (szOf P e).bind fun sz => if (smallBytes P e && (P.info? e).any (fun i => i.zero.any fun z => z.cells.size == sz.getD 1)) = true then some (Kind.prim (.append sz), [s, x]) else none) = some (.prim (.append sz), xs) →
          NOk P G w st (do let d ← resolve ρ { callee := .builtin .append, args, argTypes } ty; invoke d.target d.args) v st' := by
        intro s x t h1 h2 h3 ⟨tx, htx⟩ hc
        cases hel : elemOfA P t with
        | none => simp [hel] at hc
        | some e =>
          cases hs : szOf P e with
          | none => simp [hel, hs] at hc
          | some sz0 =>
            simp only [hel, hs, Option.bind_some] at hc
            split at hc
            · rename_i hcond
              rw [Bool.and_eq_true] at hcond
              simp only [Option.some.injEq, Prod.mk.injEq, Kind.prim.injEq, AOp.append.injEq] at hc
              obtain ⟨rfl, rfl⟩ := hc
              obtain ⟨a, b, rfl, ha, hb⟩ := hr.two
              refine builtin_run (s := Builtin.append_ argTypes ty (args.map ρ)) (fun _ => rfl) ?_
              rw [args_two h1]
              obtain ⟨y, w', G', r1, r2⟩ := appendM_sound (tx := tx) (ty := ty) hI (elemOfA_u hel) hs hcond.1 hcond.2 (h3 tx htx) he ha hb
              exact ⟨y, w', G', by rw [append_any h2 htx]; exact r1, r2⟩
            · cases hc
      split at hc <;> first | (cases hc; done) | skip
      · rename_i s x t e' h1 h2 h3
        refine key s x t h1 h2 (fun tx htx => ?_) ?_ hc
        · simp [htx] at h3; exact .inl ⟨_, h3⟩
        · cases hh : argTypes[1]? with
          | none => simp [hh] at h3
          | some tx => exact ⟨tx, rfl⟩
      · rename_i s x t h1 h2 h3
        refine key s x t h1 h2 (fun tx htx => ?_) ?_ hc
        · simp [htx] at h3; exact .inr h3
        · cases hh : argTypes[1]? with
          | none => simp [hh] at h3
          | some tx => exact ⟨tx, rfl⟩
    all_goals
      (repeat' split at hc) <;> first
        | (cases hc; done)
        | (simp [Option.bind_eq_some_iff] at hc; done)
        | skip

theorem op_soundM {P : Program} {G : Gh} {w : World} {st st' : St} {ρ : Operand → Value} {op0 op : AOp} {xs : List Operand} {avs : List AV} {v : AV} {o : Oper} (hI : Inv G w st) (ho : Alt o.op op0 op) (hc : compP P o.op = some (.prim op0, xs)) (hr : ListRel G w avs (xs.map ρ)) (he : evA op avs st = some (v, st')) :
    NOk P G w st (execOp ρ o) v st' := by
  obtain ⟨dst, oper, type, pos, after, guard⟩ := o
  simp only at ho hc
  cases ho with
  | app c sz => exact snd_callM hI hc hr he
  | box t x sz =>
    show NOk P G w st (do pure (.value (← Instr.box t (ρ x)))) v st'
    simp only [compP] at hc
    cases hs : szOf P t with
    | none => simp [hs] at hc
    | some sz0 =>
      simp only [hs, Option.bind_some, Option.some.injEq, Prod.mk.injEq, Kind.prim.injEq, AOp.box.injEq] at hc
      obtain ⟨rfl, rfl⟩ := hc
      obtain ⟨a, rfl, ha⟩ := hr.one
      obtain ⟨he', hst⟩ := evA_pure rfl he
      subst hst
      change (if shaped _ a = true then some (AV.rptr a) else none) = some v at he'
      split at he'
      · rename_i hsh
        simp only [Option.some.injEq] at he'
        subst he'
        exact (boxR_sound hI ha hsh).next
      · cases he'

theorem op_sound {P : Program} {G : Gh} {w : World} {st st' : St} {ρ : Operand → Value} {op : AOp} {xs : List Operand} {avs : List AV} {v : AV} {o : Oper} (hI : Inv G w st) (hc : compP P o.op = some (.prim op, xs)) (hr : ListRel G w avs (xs.map ρ)) (he : evA op avs st = some (v, st')) :
    NOk P G w st (execOp ρ o) v st' := by
  obtain ⟨dst, oper, type, pos, after, guard⟩ := o
  cases oper
  case move x => exact snd_move hI hc hr he
  case assign x => exact snd_assign hI hc hr he
  case pick c a b => exact snd_pick hI hc hr he
  case alloc t => exact snd_alloc hI hc hr he
  case box t x => exact snd_box hI hc hr he
  case build t ps => exact snd_build hI hc hr he
  case buildSlice t n ps => exact snd_buildSlice hI hc hr he
  case load t a => exact snd_load hI hc hr he
  case store t a x => exact snd_store hI hc hr he
  case nilCheck x => exact snd_nilCheck hI hc hr he
  case binOp b t x y t2 => exact snd_binOp hI hc hr he
  case unOp b t x => exact snd_unOp hI hc hr he
  case convert s d x => exact snd_convert hI hc hr he
  case makeFunc f a c => exact snd_makeFunc hI hc hr he
  case makeSlice t l c => exact snd_makeSlice hI hc hr he
  case slice t x lo hi mx => exact snd_slice hI hc hr he
  case fieldAddr t x i => exact snd_fieldAddr hI hc hr he
  case field t x i => exact snd_field hI hc hr he
  case indexAddr t x i => exact snd_indexAddr hI hc hr he
  case index t x i => exact snd_index hI hc hr he
  case extract x i => exact snd_extract hI hc hr he
  case call c => exact snd_call hI hc hr he
  all_goals simp [compP] at hc


end Go.Am

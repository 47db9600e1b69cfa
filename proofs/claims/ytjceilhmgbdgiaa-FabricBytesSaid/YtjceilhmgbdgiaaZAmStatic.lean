/- Regions whose order is open: where the text's own order stands for all. Calls by a table of what they hand back. -/
import Derived.Test.YtjceilhmgbdgiaaZAmSoundM
set_option linter.all false
namespace Go.Am

theorem get_app0' {α : Type} (l r : List α) : (l ++ r)[l.length]? = r[0]? := by
  rw [List.getElem?_append_right (Nat.le_refl _), Nat.sub_self]

/-- What is known of functions that only reckon: of these arguments this is handed back. -/
abbrev Orc := Nat → List AV → Option AV

def OSound (P : Program) (O : Orc) : Prop := ∀ f vs X, O f vs = some X → ∀ st, ASpec P f vs st fun v st' => v = X ∧ st' = st

/-- What the table tells of what is handed over, frozen; else the call's own contract, of what is handed over as it is. -/
def orc (P : Program) (O : Orc) : Calls1 := fun f args st K => match frzs args st with
  | some (vs, st1) => match O f vs with
    | some X => K X st1
    | none => ASpec P f args st K
  | none => ASpec P f args st K

theorem orc_imp {P : Program} {O : Orc} (hO : OSound P O) {f : Nat} {vs : List AV} {st : St} {K K' : AV → St → Prop} (h : orc P O f vs st K) (hk : ∀ v st', K v st' → K' v st') : ASpec P f vs st K' := by
  unfold orc at h
  split at h
  · rename_i vs' st1 hf
    split at h
    · rename_i X hX
      exact aspec_frz hf ((hO f vs' X hX st1).mono (by rintro v st' ⟨rfl, rfl⟩; exact hk _ _ h))
    · exact h.mono hk
  · exact h.mono hk

theorem awI_mono {C C' : Calls1} (hC : ∀ f vs st (K K' : AV → St → Prop), C f vs st K → (∀ v st', K v st' → K' v st') → C' f vs st K') : ∀ (is : List AIns) (env : Env) (st : St) (K K' : Env → St → Prop), awI C is env st K → (∀ e s, K e s → K' e s) → awI C' is env st K'
  | [], env, st, K, K', h, hk => hk _ _ h
  | i :: is, env, st, K, K', h, hk => by
    simp only [awI] at h ⊢
    cases hw : wantedA i.guard env with
    | none => simp [hw] at h
    | some b =>
      rw [hw] at h
      cases b with
      | false => exact awI_mono hC is _ _ K K' h hk
      | true =>
        simp only [] at h ⊢
        cases hkd : i.kind with
        | prim op =>
          rw [hkd] at h
          simp only [] at h ⊢
          cases he : evA op (i.args.map (opdV env)) st with
          | none => simp [he] at h
          | some p => rw [he] at h; exact awI_mono hC is _ _ K K' h hk
        | call f =>
          rw [hkd] at h
          simp only [] at h ⊢
          exact hC _ _ _ _ _ h (fun v st' hh => awI_mono hC is _ _ K K' hh hk)
        | callV =>
          rw [hkd] at h
          simp only [] at h ⊢
          split at h
          · exact hC _ _ _ _ _ h (fun v st' hh => awI_mono hC is _ _ K K' hh hk)
          · exact h.elim

theorem awC_mono {C C' : Calls1} (hC : ∀ f vs st (K K' : AV → St → Prop), C f vs st K → (∀ v st', K v st' → K' v st') → C' f vs st K') : ∀ (c : ACode) (env : Env) (st : St) (K K' : Exit → Env → St → Prop), awC C c env st K → (∀ e v s, K e v s → K' e v s) → awC C' c env st K'
  | .skip, env, st, K, K', h, hk => hk _ _ _ h
  | .region is none, env, st, K, K', h, hk => awI_mono hC is env st _ _ h (fun e s => hk _ e s)
  | .region is (some deps), env, st, K, K', h, hk => fun l hl => awI_mono hC _ env st _ _ (h l hl) (fun e s => hk _ e s)
  | .seq a b, env, st, K, K', h, hk => by
    simp only [awC] at h ⊢
    refine awC_mono hC a env st _ _ h fun e v s hh => ?_
    cases e <;> first | exact awC_mono hC b _ _ _ _ hh hk | exact hk _ _ _ hh
  | .cond c a b, env, st, K, K', h, hk => by
    simp only [awC] at h ⊢
    split at h
    · rename_i t ht
      split at h
      · rw [if_pos (by assumption)]; exact awC_mono hC a _ _ _ _ h hk
      · rw [if_neg (by assumption)]; exact awC_mono hC b _ _ _ _ h hk
    · exact ⟨awC_mono hC a _ _ _ _ h.1 hk, awC_mono hC b _ _ _ _ h.2 hk⟩
    · exact h.elim
  | .block id b, env, st, K, K', h, hk => by
    simp only [awC] at h ⊢
    refine awC_mono hC b env st _ _ h fun e v s hh => ?_
    cases e with
    | exit i =>
      simp only [] at hh ⊢
      split at hh
      · rw [if_pos (by assumption)]; exact hk _ _ _ hh
      · rw [if_neg (by assumption)]; exact hk _ _ _ hh
    | _ => exact hk _ _ _ hh
  | .loop b, env, st, K, K', h, hk => by
    simp only [awC] at h ⊢
    obtain ⟨I, n, env1, st1, h1, h2, h3⟩ := h
    refine ⟨I, n, env1, st1, h1, h2, fun n env st hI => ?_⟩
    refine awC_mono hC b env st _ _ (h3 n env st hI) fun e v s hh => ?_
    cases e <;> first | exact hh | exact hk _ _ _ hh
  | .scope b, env, st, K, K', h, hk => by
    simp only [awC] at h ⊢
    refine awC_mono hC b env st _ _ h fun e v s hh => ?_
    cases e <;> first | exact hh.elim | exact hk _ _ _ hh
  | .exit id, env, st, K, K', h, hk => hk _ _ _ h
  | .ret, env, st, K, K', h, hk => hk _ _ _ h
  | .label _, env, st, K, K', h, hk => hk _ _ _ h
  | .goto _, env, st, K, K', h, hk => hk _ _ _ h
  | .scopeJ b l r, env, st, K, K', h, hk => by
    simp only [awC] at h ⊢
    refine awC_mono hC b env st _ _ h fun e v s hh => ?_
    cases e <;> first | exact ⟨hh.1, awC_mono hC r _ _ _ _ hh.2 fun e v s hh => by cases e <;> first | exact hh.elim | exact hk _ _ _ hh⟩ | exact hk _ _ _ hh

/-! One instruction, its calls by the table. -/

def isMsl : AV → Bool
  | .msl .. => true
  | _ => false

def evK (O : Orc) (k : Kind) (args : List AV) (st : St) : Option (AV × St) :=
  match k with
  | .prim op => evA op args st
  | .call f => if args.any isMsl then none else (O f (normL args)).map fun X => (X, st)
  | .callV => match args with
    | .fn (.func f) first caps :: xs => if (first ++ xs ++ caps).any isMsl then none else (O f (normL (first ++ xs ++ caps))).map fun X => (X, st)
    | _ => none

def stepO (O : Orc) (i : AIns) (env : Env) (st : St) : Option (Env × St) :=
  match wantedA i.guard env with
  | some false => some (put env i.dst (.tup []), st)
  | some true => (evK O i.kind (i.args.map (opdV env)) st).map fun (v, st') => (put env i.dst v, st')
  | none => none

def awO (O : Orc) : List AIns → Env → St → (Env → St → Prop) → Prop
  | [], env, st, K => K env st
  | i :: is, env, st, K => match stepO O i env st with
    | some (env', st') => awO O is env' st' K
    | none => False

theorem frzs_plain : ∀ {vs : List AV} {st : St}, vs.any isMsl = false → frzs vs st = some (normL vs, st)
  | [], st, _ => rfl
  | v :: vs, st, h => by
    simp only [List.any_cons, Bool.or_eq_false_iff] at h
    have h1 : frz1 v st = some (v.norm, st) := by cases v <;> first | rfl | (simp [isMsl] at h)
    simp [frzs, h1, frzs_plain h.2, normL]

theorem awI_of_awO {P : Program} {O : Orc} : ∀ (is : List AIns) (env : Env) (st : St) (K : Env → St → Prop), awO O is env st K → awI (orc P O) is env st K
  | [], env, st, K, h => h
  | i :: is, env, st, K, h => by
    simp only [awO, stepO] at h
    simp only [awI]
    cases hw : wantedA i.guard env with
    | none => simp [hw] at h
    | some b =>
      rw [hw] at h
      cases b with
      | false => exact awI_of_awO is _ _ K h
      | true =>
        simp only [] at h ⊢
        cases hkd : i.kind with
        | prim op =>
          rw [hkd] at h
          simp only [evK] at h ⊢
          cases he : evA op (i.args.map (opdV env)) st with
          | none => simp [he] at h
          | some p => rw [he] at h; exact awI_of_awO is _ _ K h
        | call f =>
          rw [hkd] at h
          simp only [evK] at h ⊢
          split at h
          · rename_i env' st' heq
            split at heq
            · simp at heq
            · rename_i hm
              simp only [orc]
              rw [frzs_plain (vs := i.args.map (opdV env)) (st := st) (by simp only [Bool.not_eq_true] at hm; exact hm)]
              simp only []
              cases hX : O f (normL (i.args.map (opdV env))) with
              | none => simp [hX] at heq
              | some X =>
                simp [hX] at heq
                obtain ⟨rfl, rfl⟩ := heq
                exact awI_of_awO is _ _ K h
          · exact h.elim
        | callV =>
          rw [hkd] at h
          simp only [evK] at h ⊢
          split at h
          · rename_i env' st' heq
            split at heq
            · rename_i f first caps xs hargs
              simp only [hargs]
              split at heq
              · simp at heq
              · rename_i hm
                simp only [orc]
                rw [frzs_plain (vs := first ++ xs ++ caps) (st := st) (by simp only [Bool.not_eq_true] at hm; exact hm)]
                simp only []
                cases hX : O f (normL (first ++ xs ++ caps)) with
                | none => rw [hX] at heq; simp at heq
                | some X =>
                  rw [hX] at heq
                  simp at heq
                  obtain ⟨rfl, rfl⟩ := heq
                  exact awI_of_awO is _ _ K h
            · simp at heq
          · exact h.elim

/-! Two instructions that do not meet. -/

def AIns.cls (i : AIns) : Cls :=
  match i.kind with
  | .prim op => op.cls
  | _ => .pure

def AIns.reads (i : AIns) : List Nat :=
  (i.args.filterMap fun | .tmp t => some t | .const _ => none) ++ (match i.guard with | some (t, _) => [t] | none => [])

def clsMeet : Cls → Cls → Bool
  | .write, .write | .write, .read | .read, .write | .tok, .tok | .write, .tok | .tok, .write => true
  | _, _ => false

/-- An operation that only puts a block behind the others. -/
def AOp.fresh : AOp → Bool
  | .alloc _ | .box _ | .mkslice .. | .appendM _ => true
  | _ => false
def Kind.fresh : Kind → Bool
  | .prim op => op.fresh
  | _ => false
def isRead : Cls → Bool
  | .read => true
  | _ => false

/-- The zero that a key stands for where it is not there: told apart without more. -/
def zeroEq : AV → AV → Bool
  | .int k a, .int k' b => decide (k = k') && a == b
  | .bool a, .bool b => a == b
  | .sl .clip [], .sl .clip [] => true
  | _, _ => false
theorem zeroEq_eq {a b : AV} (h : zeroEq a b = true) : a = b := by
  unfold zeroEq at h
  split at h <;> simp_all
/-- A map's value of a key, and the entry of the same key: 'm[k]++'. -/
def countsP (i j : AIns) : Bool :=
  match i.kind, j.kind, i.args, j.args with
  | .prim (.mapGet kk z false), .prim (.mapEnt kk' z'), [.tmp m, .tmp k], [.tmp m', .tmp k'] => decide (kk = kk') && zeroEq z z' && decide (m = m') && decide (k = k')
  | _, _, _, _ => false

theorem eqCell_true {k : Nat} {x y : AV} (h : eqCell k x y = some true) : x = y := by
  unfold eqCell at h
  split at h
  · split at h
    · rename_i hk
      simp at h
      rw [hk, h]
    · cases h
  · simp at h; rw [h]
  · simp at h; rw [h]
  · cases h
theorem eqCells_true : ∀ {ks : List Nat} {as bs : List AV}, eqCells ks as bs = some true → as = bs
  | [], as, bs, h => by
    match as, bs with
    | [], [] => rfl
    | [], _ :: _ => simp [eqCells] at h
    | _ :: _, _ => simp [eqCells] at h
  | k :: ks, as, bs, h => by
    match as, bs with
    | a :: as, b :: bs =>
      simp only [eqCells] at h
      cases hq : eqCell k a b with
      | none => simp [hq] at h
      | some r =>
        rw [hq] at h
        cases r with
        | false => simp at h
        | true =>
          simp at h
          rw [eqCell_true hq, eqCells_true h]
    | [], _ => simp [eqCells] at h
    | _ :: _, [] => simp [eqCells] at h
theorem keyEq_true {kk : KeyK} {x y : AV} (h : keyEqA kk x y = some true) : x = y := by
  cases kk with
  | one k => exact eqCell_true h
  | flat ks =>
    simp only [keyEqA] at h
    unfold eqKind at h
    split at h
    · exact absurd ‹EqK.flat ks = EqK.bool› (by simp)
    · exact absurd ‹EqK.flat ks = EqK.ptr› (by simp)
    · split at h
      · rw [eqCells_true h]
      · cases h
    · cases h
theorem eqCell_refl {k : Nat} {x : AV} {r : Bool} (h : eqCell k x x = some r) : r = true := by
  unfold eqCell at h
  split at h <;> simp_all
theorem eqCells_refl : ∀ {ks : List Nat} {as : List AV} {r : Bool}, eqCells ks as as = some r → r = true
  | [], as, r, h => by
    match as with
    | [] => simp [eqCells] at h; exact h
    | _ :: _ => simp [eqCells] at h
  | k :: ks, as, r, h => by
    match as with
    | a :: as =>
      simp only [eqCells] at h
      cases hq : eqCell k a a with
      | none => simp [hq] at h
      | some q =>
        rw [hq, eqCell_refl hq] at h
        simp at h
        exact eqCells_refl h
    | [] => simp [eqCells] at h
theorem keyEq_refl {kk : KeyK} {x : AV} (h : (keyEqA kk x x).isSome = true) : keyEqA kk x x = some true := by
  cases hq : keyEqA kk x x with
  | none => simp [hq] at h
  | some r =>
    congr 1
    cases kk with
    | one k => exact eqCell_refl hq
    | flat ks =>
      simp only [keyEqA] at hq
      unfold eqKind at hq
      split at hq
      · exact absurd ‹EqK.flat ks = EqK.bool› (by simp)
      · exact absurd ‹EqK.flat ks = EqK.ptr› (by simp)
      · split at hq
        · rename_i he1 he2 _
          cases he1
          injection he2 with he2
          subst he2
          exact eqCells_refl hq
        · cases hq
      · cases hq
theorem findA_hit {kk : KeyK} {k : AV} : ∀ {es : List (AV × AV × Nat)} {i : Nat}, findA kk k es = some (some i) → ∃ e, es[i]? = some e ∧ e.1 = k
  | [], i, h => by simp [findA] at h
  | e :: es, i, h => by
    simp only [findA] at h
    cases hq : keyEqA kk k e.1 with
    | none => simp [hq] at h
    | some q =>
      rw [hq] at h
      cases q with
      | true =>
        simp at h
        subst h
        exact ⟨e, rfl, (keyEq_true hq).symm⟩
      | false =>
        simp only [Option.map_eq_some_iff] at h
        obtain ⟨r, h1, h2⟩ := h
        cases r with
        | none => simp at h2
        | some j =>
          simp at h2
          subst h2
          obtain ⟨e', q1, q2⟩ := findA_hit h1
          exact ⟨e', by simpa using q1, q2⟩
theorem findA_push {kk : KeyK} {k : AV} (hk : keyEqA kk k k = some true) (v : AV) (c : Nat) : ∀ {es : List (AV × AV × Nat)}, findA kk k es = some none → findA kk k (es ++ [(k, v, c)]) = some (some es.length)
  | [], h => by simp [findA, hk]
  | e :: es, h => by
    simp only [findA] at h
    cases hq : keyEqA kk k e.1 with
    | none => simp [hq] at h
    | some q =>
      rw [hq] at h
      cases q with
      | true => simp at h
      | false =>
        simp only [Option.map_eq_some_iff] at h
        obtain ⟨r, h1, h2⟩ := h
        cases r with
        | none =>
          have := findA_push hk v c h1
          simp [findA, hq, this]
        | some j => simp at h2
theorem getA_ent {kk : KeyK} {z k v r : AV} {m : List (AV × AV × Nat) × Nat} {es : List (AV × AV × Nat)} {c : Nat} (h1 : getA kk z false m.1 k = some v) (h2 : entA kk z m k = some (r, es, c)) : getA kk z false es k = some v := by
  unfold getA at h1 ⊢
  unfold entA at h2
  split at h1
  · cases h1
  · rename_i hs
    rw [if_neg hs] at h2 ⊢
    have hk := keyEq_refl (Option.isSome_iff_ne_none.2 (by simpa using hs))
    cases hf : findA kk k m.1 with
    | none => simp [hf] at h1
    | some q =>
      rw [hf] at h1 h2
      cases q with
      | some i =>
        obtain ⟨e, he, hek⟩ := findA_hit hf
        simp only [Option.bind_some, he, Option.map_some, Option.some.injEq, Prod.mk.injEq] at h1 h2
        obtain ⟨_, h2, _⟩ := h2
        have : es = m.1 := by
          rw [← h2, ← hek]
          apply List.ext_getElem?
          intro j
          rw [List.getElem?_set]
          split
          · rename_i hj
            subst hj
            rw [he]
            simp [(List.getElem?_eq_some_iff.1 he).1]
          · rfl
        rw [this, hf]
        simp [he, h1]
      | none =>
        simp only [Option.bind_some, Option.some.injEq, Prod.mk.injEq] at h1 h2
        obtain ⟨_, h2, _⟩ := h2
        rw [← h2, findA_push hk z m.2 hf]
        simp [← h1, mapRes]

def meet (i j : AIns) : Bool :=
  (clsMeet i.cls j.cls && !(isRead i.cls && j.kind.fresh) && !(countsP i j)) || (match i.dst with | some d => j.reads.contains d || j.dst == some d | none => false) || (match j.dst with | some d => i.reads.contains d | none => false)

theorem put_other {env : Env} {d : Option Nat} {v : AV} {t : Nat} (h : ∀ d', d = some d' → d' ≠ t) : put env d v t = env t := by
  cases d with
  | none => rfl
  | some d => simp [put, (h d rfl).symm]

theorem args_other {env : Env} {i : AIns} {d : Option Nat} {v : AV} (h : ∀ d', d = some d' → d' ∉ i.reads) : i.args.map (opdV (put env d v)) = i.args.map (opdV env) := by
  apply List.map_congr_left
  intro o ho
  cases o with
  | const c => rfl
  | tmp t =>
    refine put_other fun d' hd e => h d' hd ?_
    subst e
    simp only [AIns.reads, List.mem_append, List.mem_filterMap]
    exact .inl ⟨.tmp d', ho, rfl⟩

theorem wanted_other {env : Env} {i : AIns} {d : Option Nat} {v : AV} (h : ∀ d', d = some d' → d' ∉ i.reads) : wantedA i.guard (put env d v) = wantedA i.guard env := by
  cases hg : i.guard with
  | none => rfl
  | some p =>
    obtain ⟨t, b⟩ := p
    simp only [wantedA]
    rw [put_other fun d' hd e => h d' hd ?_]
    subst e
    simp [AIns.reads, hg]

theorem put_comm {env : Env} {d e : Option Nat} {u v : AV} (h : ∀ d', d = some d' → e ≠ some d') : put (put env d u) e v = put (put env e v) d u := by
  cases d with
  | none => rfl
  | some d =>
    cases e with
    | none => rfl
    | some e =>
      have : e ≠ d := fun hh => h d rfl (by rw [hh])
      funext t
      simp only [put]
      by_cases h1 : t = e
      · subst h1; simp [this]
      · simp [h1]

/-- Which part of the state an operation looks at, and which it turns. -/
theorem evK_cls (O : Orc) (k : Kind) (args : List AV) (c : Cls) (hc : (match k with | .prim op => op.cls | _ => .pure) = c) :
    (c = .pure → ∀ st st' v s, evK O k args st = some (v, s) → s = st ∧ evK O k args st' = some (v, st')) ∧
    (c = .read → ∀ st v s, evK O k args st = some (v, s) → s = st ∧ ∀ t, evK O k args ⟨st.heap, t⟩ = some (v, ⟨st.heap, t⟩)) ∧
    (c = .tok → ∀ st v s, evK O k args st = some (v, s) → s.heap = st.heap) := by
  cases k with
  | call f =>
    refine ⟨fun _ st st' v s h => ?_, fun e => (by rw [← hc] at e; cases e), fun e => (by rw [← hc] at e; cases e)⟩
    simp only [evK] at h ⊢
    split at h
    · cases h
    · rename_i hm
      rw [if_neg hm]
      cases hX : O f (normL args) with
      | none => simp [hX] at h
      | some X => simp [hX] at h; obtain ⟨rfl, rfl⟩ := h; exact ⟨rfl, rfl⟩
  | callV =>
    refine ⟨fun _ st st' v s h => ?_, fun e => (by rw [← hc] at e; cases e), fun e => (by rw [← hc] at e; cases e)⟩
    simp only [evK] at h ⊢
    split at h
    · rename_i f first caps xs
      split at h
      · cases h
      · rename_i hm
        rw [if_neg hm]
        cases hX : O f (normL (first ++ xs ++ caps)) with
        | none => rw [hX] at h; simp at h
        | some X => rw [hX] at h; simp at h; obtain ⟨rfl, rfl⟩ := h; exact ⟨rfl, rfl⟩
    · cases h
  | prim op =>
    simp only [evK]
    simp only [] at hc
    refine ⟨fun e st st' v s h => ?_, fun e st v s h => ?_, fun e st v s h => ?_⟩
    · rw [e] at hc
      obtain ⟨h1, rfl⟩ := evA_pure hc h
      exact ⟨rfl, by simp [evA, hc, h1]⟩
    · rw [e] at hc
      obtain ⟨h1, rfl⟩ := evA_read hc h
      refine ⟨rfl, fun t => ?_⟩
      have : evR op args ⟨s.heap, t⟩ = evR op args s := by
        unfold evR
        cases op <;> rfl
      simp [evA, hc, this, h1]
    · rw [e] at hc
      simp only [evA, hc] at h
      unfold evT at h
      split at h
      · split at h <;> first | (cases h; done) | skip
        split at h <;> first | (cases h; done) | skip
        split at h <;> first | (cases h; done) | skip
        · simp at h; rw [← h.2]
        · split at h <;> first | (cases h; done) | skip
          split at h <;> first | (cases h; done) | skip
          simp at h; rw [← h.2]
      · cases h


theorem evK_tok (O : Orc) {k : Kind} {args : List AV} (hc : (match k with | .prim op => op.cls | _ => .pure) = .tok) {st : St} {v : AV} {s : St} (h : evK O k args st = some (v, s)) : s.heap = st.heap := (evK_cls O k args .tok hc).2.2 rfl st v s h

theorem get_more {α : Type} {l g : List α} {i : Nat} {x : α} (h : l[i]? = some x) : (l ++ g)[i]? = some x := by
  rw [List.getElem?_append_left (List.getElem?_eq_some_iff.1 h).1, h]

theorem mapAt_more {st : St} {l : Nat} {m : List (AV × AV × Nat) × Nat} (g : List Blk) (t : List (Nat × Nat)) (h : mapAt st l = some m) : mapAt ⟨st.heap ++ g, t⟩ l = some m := by
  unfold mapAt at h ⊢
  cases hb : st.heap[l]? with
  | none => simp [hb] at h
  | some b => simp only [get_more hb]; rw [hb] at h; exact h

/-- What is read is read behind a new block, too. -/
theorem evR_more {op : AOp} {args : List AV} {st : St} {v : AV} (g : List Blk) (t : List (Nat × Nat)) (h : evR op args st = some v) : evR op args ⟨st.heap ++ g, t⟩ = some v := by
  unfold evR at h ⊢
  split at h
  · exact h
  · simp only [Option.bind_eq_some_iff] at h ⊢
    obtain ⟨m, hm, h⟩ := h
    exact ⟨m, mapAt_more g t hm, h⟩
  · exact h
  · simp only [Option.map_eq_some_iff] at h ⊢
    obtain ⟨m, hm, h⟩ := h
    exact ⟨m, mapAt_more g t hm, h⟩
  · rename_i l off
    cases hb : st.heap[l]? with
    | none => simp [hb] at h
    | some b => simp only [get_more hb]; rw [hb] at h; exact h
  · exact h
  · exact h
  · rename_i l off len
    cases hb : st.heap[l]? with
    | none => simp [hb] at h
    | some b => simp only [get_more hb]; rw [hb] at h; exact h
  · rename_i n sz lo hi l off bs
    simp only [Option.bind_eq_some_iff] at h ⊢
    obtain ⟨p, hp, h⟩ := h
    refine ⟨p, hp, ?_⟩
    cases hb : st.heap[l]? with
    | none => simp [hb] at h
    | some b => simp only [get_more hb]; rw [hb] at h; exact h
  · exact h
  · cases h

theorem ev_fresh (O : Orc) {k : Kind} {args : List AV} (hf : k.fresh = true) {st s : St} {v : AV} (h : evK O k args st = some (v, s)) : ∃ b, s = ⟨st.heap ++ [b], st.toks⟩ := by
  cases k with
  | call f => cases hf
  | callV => cases hf
  | prim op =>
    simp only [evK] at h
    have hw : evW op args st = some (v, s) := by
      cases op <;> first | (cases hf; done) | exact h
    clear h
    unfold evW at hw
    split at hw
    all_goals
      (repeat' split at hw) <;> first
        | (cases hf; done)
        | (cases hw; done)
        | (simp at hw; exact ⟨_, hw.2.symm⟩)

theorem ev_counts (O : Orc) {i j : AIns} {env : Env} {st s1 s2 : St} {v1 v2 : AV} (hq : countsP i j = true) (h1 : evK O i.kind (i.args.map (opdV env)) st = some (v1, s1)) (h2 : evK O j.kind (j.args.map (opdV env)) s1 = some (v2, s2)) :
    ∃ s', evK O j.kind (j.args.map (opdV env)) st = some (v2, s') ∧ evK O i.kind (i.args.map (opdV env)) s' = some (v1, s2) := by
  unfold countsP at hq
  split at hq
  · rename_i kk z kk' z' m k m' k' e1 e2 e3 e4
    simp only [Bool.and_eq_true, decide_eq_true_eq] at hq
    obtain ⟨⟨⟨rfl, hz⟩, rfl⟩, rfl⟩ := hq
    have := zeroEq_eq hz
    subst this
    rw [e1, e3] at h1 ⊢
    rw [e2, e4] at h2 ⊢
    simp only [evK, List.map_cons, List.map_nil] at h1 h2 ⊢
    obtain ⟨g1, rfl⟩ := evA_read rfl h1
    refine ⟨s2, h2, ?_⟩
    simp only [evA, AOp.cls] at h2 ⊢
    generalize opdV env (.tmp m) = a at *
    generalize opdV env (.tmp k) = b at *
    cases a <;> simp only [evW] at h2 <;> first | (cases h2; done) | skip
    rename_i ml
    cases ml with
    | none => simp [evW] at h2
    | some l =>
      simp only [evW, Option.bind_eq_some_iff, Option.map_eq_some_iff, Prod.mk.injEq] at h2
      obtain ⟨mm, hm, r, hr, _, rfl⟩ := h2
      simp only [evR, hm, Option.bind_some] at g1
      have hlt : l < s1.heap.length := by
        unfold mapAt at hm
        split at hm
        · rename_i hh; exact (List.getElem?_eq_some_iff.1 hh).1
        · cases hm
      have hm2 : mapAt (s1.setBlk l (.map r.2.1 r.2.2)) l = some r.2 := by
        simp [mapAt, St.setBlk, hlt]
      simp [evR, hm2, getA_ent g1 hr]
  · cases hq

/-- Two operations that do not meet, one behind the other. -/
theorem ev_comm (O : Orc) {k1 k2 : Kind} {a1 a2 : List AV} {st s1 s2 : St} {v1 v2 : AV} (hm : (clsMeet (match k1 with | .prim op => op.cls | _ => .pure) (match k2 with | .prim op => op.cls | _ => .pure) && !(isRead (match k1 with | .prim op => op.cls | _ => .pure) && k2.fresh)) = false)
    (h1 : evK O k1 a1 st = some (v1, s1)) (h2 : evK O k2 a2 s1 = some (v2, s2)) : ∃ s', evK O k2 a2 st = some (v2, s') ∧ evK O k1 a1 s' = some (v1, s2) := by
  generalize hc1 : (match k1 with | .prim op => op.cls | _ => .pure) = c1 at hm
  generalize hc2 : (match k2 with | .prim op => op.cls | _ => .pure) = c2 at hm
  obtain ⟨p1, r1, t1⟩ := evK_cls O k1 a1 c1 hc1
  obtain ⟨p2, r2, t2⟩ := evK_cls O k2 a2 c2 hc2
  by_cases e1 : c1 = .pure
  · obtain ⟨rfl, _⟩ := p1 e1 st st v1 s1 h1
    exact ⟨s2, h2, (p1 e1 _ s2 _ _ h1).2⟩
  by_cases e2 : c2 = .pure
  · obtain ⟨rfl, _⟩ := p2 e2 s1 s1 v2 s2 h2
    exact ⟨st, (p2 e2 _ st _ _ h2).2, h1⟩
  by_cases e3 : c1 = .read ∧ k2.fresh = true
  · obtain ⟨e3, e4⟩ := e3
    obtain ⟨rfl, _⟩ := r1 e3 st v1 s1 h1
    obtain ⟨b, rfl⟩ := ev_fresh O e4 h2
    refine ⟨_, h2, ?_⟩
    cases k1 with
    | call f => simp at hc1; rw [← hc1] at e3; cases e3
    | callV => simp at hc1; rw [← hc1] at e3; cases e3
    | prim op =>
      simp only [] at hc1
      simp only [evK] at h1 ⊢
      rw [e3] at hc1
      obtain ⟨g1, _⟩ := evA_read hc1 h1
      simp [evA, hc1, evR_more [b] s1.toks g1]
  cases c1 <;> cases c2 <;> simp [clsMeet, isRead] at hm e1 e2 e3 <;> first | (rw [e3] at hm; cases hm; done) | skip
  · obtain ⟨rfl, _⟩ := r1 rfl st v1 s1 h1
    obtain ⟨rfl, _⟩ := r2 rfl _ v2 s2 h2
    exact ⟨_, h2, h1⟩
  · -- read, tok
    obtain ⟨rfl, hr⟩ := r1 rfl st v1 s1 h1
    have hh := t2 rfl _ v2 s2 h2
    refine ⟨s2, h2, ?_⟩
    have := hr s2.toks
    rw [← hh] at this
    exact this
  · -- tok, read
    have hh := t1 rfl _ v1 s1 h1
    obtain ⟨rfl, hr⟩ := r2 rfl s1 v2 s2 h2
    refine ⟨st, ?_, h1⟩
    have := hr st.toks
    rw [hh] at this
    exact this

theorem step_swap (O : Orc) {i j : AIns} {env e1 e2 : Env} {st s1 s2 : St} (hm : meet i j = false) (h1 : stepO O i env st = some (e1, s1)) (h2 : stepO O j e1 s1 = some (e2, s2)) :
    ∃ e' s', stepO O j env st = some (e', s') ∧ stepO O i e' s' = some (e2, s2) := by
  simp only [meet, Bool.or_eq_false_iff] at hm
  obtain ⟨⟨m1, m2⟩, m3⟩ := hm
  have hij : ∀ d, i.dst = some d → d ∉ j.reads ∧ j.dst ≠ some d := fun d hd => by
    rw [hd] at m2
    simp only [Bool.or_eq_false_iff] at m2
    exact ⟨by simpa using m2.1, by simpa using m2.2⟩
  have hji : ∀ d, j.dst = some d → d ∉ i.reads := fun d hd => by
    rw [hd] at m3
    simpa using m3
  simp only [stepO] at h1 h2
  cases hw1 : wantedA i.guard env with
  | none => simp [hw1] at h1
  | some b1 =>
    rw [hw1] at h1
    have key : ∀ (v1 : AV), e1 = put env i.dst v1 → (∃ b2, wantedA j.guard env = some b2 ∧ wantedA j.guard e1 = some b2 ∧ j.args.map (opdV e1) = j.args.map (opdV env)) := fun v1 he => by
      rw [he] at h2 ⊢
      rw [wanted_other (fun d hd => (hij d hd).1)] at h2 ⊢
      rw [args_other (fun d hd => (hij d hd).1)]
      cases hw2 : wantedA j.guard env with
      | none => simp [hw2] at h2
      | some b2 => exact ⟨b2, rfl, rfl, rfl⟩
    have fin : ∀ (v2 : AV), wantedA i.guard (put env j.dst v2) = some b1 ∧ i.args.map (opdV (put env j.dst v2)) = i.args.map (opdV env) := fun v2 => by
      rw [wanted_other hji, args_other hji]; exact ⟨hw1, rfl⟩
    have hcm : ∀ (v1 v2 : AV), put (put env i.dst v1) j.dst v2 = put (put env j.dst v2) i.dst v1 := fun v1 v2 => put_comm (fun d hd => (hij d hd).2)
    cases b1 with
    | false =>
      simp only [Option.some.injEq, Prod.mk.injEq] at h1
      obtain ⟨rfl, rfl⟩ := h1
      obtain ⟨b2, w1, w2, ha⟩ := key _ rfl
      rw [w2, ha] at h2
      cases b2 with
      | false =>
        simp only [Option.some.injEq, Prod.mk.injEq] at h2
        obtain ⟨rfl, rfl⟩ := h2
        refine ⟨put env j.dst (.tup []), st, by simp [stepO, w1], ?_⟩
        simp only [stepO, (fin (.tup [])).1]
        rw [hcm]
      | true =>
        simp only [Option.map_eq_some_iff] at h2
        obtain ⟨⟨v2, s'⟩, q1, q2⟩ := h2
        simp only [Prod.mk.injEq] at q2
        obtain ⟨rfl, rfl⟩ := q2
        refine ⟨put env j.dst v2, s', by simp [stepO, w1, q1], ?_⟩
        simp only [stepO, (fin v2).1]
        rw [hcm]
    | true =>
      simp only [Option.map_eq_some_iff] at h1
      obtain ⟨⟨v1, s1'⟩, p1, p2⟩ := h1
      simp only [Prod.mk.injEq] at p2
      obtain ⟨rfl, rfl⟩ := p2
      obtain ⟨b2, w1, w2, ha⟩ := key _ rfl
      rw [w2, ha] at h2
      cases b2 with
      | false =>
        simp only [Option.some.injEq, Prod.mk.injEq] at h2
        obtain ⟨rfl, rfl⟩ := h2
        refine ⟨put env j.dst (.tup []), st, by simp [stepO, w1], ?_⟩
        simp only [stepO, (fin (.tup [])).1, (fin (.tup [])).2, p1, Option.map_some]
        rw [hcm]
      | true =>
        simp only [Option.map_eq_some_iff] at h2
        obtain ⟨⟨v2, s2'⟩, q1, q2⟩ := h2
        simp only [Prod.mk.injEq] at q2
        obtain ⟨rfl, rfl⟩ := q2
        obtain ⟨s', r1, r2⟩ : ∃ s', evK O j.kind (j.args.map (opdV env)) st = some (v2, s') ∧ evK O i.kind (i.args.map (opdV env)) s' = some (v1, s2') := by
          by_cases hq : countsP i j = true
          · exact ev_counts O hq p1 q1
          · have m1' : (clsMeet i.cls j.cls && !(isRead i.cls && j.kind.fresh)) = false := by
              simpa [hq] using m1
            exact ev_comm O m1' p1 q1
        refine ⟨put env j.dst v2, s', by simp [stepO, w1, r1], ?_⟩
        simp only [stepO, (fin v2).1, (fin v2).2, r2, Option.map_some]
        rw [hcm]

/-- The run of a list, without what comes behind. -/
def runO (O : Orc) : List AIns → Env → St → Option (Env × St)
  | [], env, st => some (env, st)
  | i :: is, env, st => (stepO O i env st).bind fun (e, s) => runO O is e s

theorem awO_run (O : Orc) : ∀ (is : List AIns) (env : Env) (st : St) (K : Env → St → Prop), awO O is env st K ↔ ∃ e s, runO O is env st = some (e, s) ∧ K e s
  | [], env, st, K => by
    simp only [awO, runO, Option.some.injEq, Prod.mk.injEq]
    exact ⟨fun h => ⟨env, st, ⟨rfl, rfl⟩, h⟩, by rintro ⟨_, _, ⟨rfl, rfl⟩, h⟩; exact h⟩
  | i :: is, env, st, K => by
    simp only [awO, runO]
    cases h : stepO O i env st with
    | none => simp
    | some p =>
      obtain ⟨e, s⟩ := p
      simp only [Option.bind_some]
      exact awO_run O is e s K

/-- An instruction that meets none of those ahead of it may go first. -/
theorem run_front (O : Orc) : ∀ (p : List AIns) (i : AIns) (q : List AIns) (env : Env) (st : St) (r : Env × St), (∀ x ∈ p, meet i x = false) → runO O (i :: (p ++ q)) env st = some r → runO O (p ++ i :: q) env st = some r
  | [], i, q, env, st, r, _, h => h
  | x :: p, i, q, env, st, r, hm, h => by
    simp only [List.cons_append, runO, Option.bind_eq_some_iff] at h ⊢
    obtain ⟨⟨e1, s1⟩, h1, ⟨e2, s2⟩, h2, h3⟩ := h
    obtain ⟨e', s', g1, g2⟩ := step_swap O (hm x (by simp)) h1 h2
    refine ⟨(e', s'), g1, run_front O p i q e' s' r (fun y hy => hm y (by simp [hy])) ?_⟩
    simp only [runO, Option.bind_eq_some_iff]
    exact ⟨(e2, s2), g2, h3⟩

/-- Two orders of the same places that have all that meet in one order. -/
theorem run_perm (O : Orc) (is : List AIns) : ∀ (l1 l2 : List Nat) (env : Env) (st : St) (r : Env × St), l1.Nodup → l1.Perm l2 →
    (∀ (p q : Nat) (i j : Nat), l1[p]? = some i → l1[q]? = some j → p < q → meet (is.getD i default) (is.getD j default) = true → ∀ (p' q' : Nat), l2[p']? = some i → l2[q']? = some j → p' < q') →
    runO O (l1.map fun i => is.getD i default) env st = some r → runO O (l2.map fun i => is.getD i default) env st = some r
  | [], l2, env, st, r, _, hp, _, h => by
    have : l2 = [] := by simpa using hp.length_eq.symm
    subst this
    exact h
  | i :: l1, l2, env, st, r, hn, hp, ho, h => by
    have hi : i ∈ l2 := hp.mem_iff.1 (by simp)
    obtain ⟨a, b, rfl⟩ := List.append_of_mem hi
    have hn2 : (a ++ i :: b).Nodup := hp.nodup_iff.1 hn
    have hp' : l1.Perm (a ++ b) := (List.perm_cons i).1 (hp.trans List.perm_middle)
    have hfree : ∀ x ∈ a, meet (is.getD i default) (is.getD x default) = false := fun x hx => by
      cases hmx : meet (is.getD i default) (is.getD x default) with
      | false => rfl
      | true =>
        exfalso
        have hx1 : x ∈ l1 := hp'.mem_iff.2 (by simp [hx])
        obtain ⟨q, hq, hqe⟩ := List.mem_iff_getElem.1 hx1
        obtain ⟨pa, hpa, hpae⟩ := List.mem_iff_getElem.1 hx
        have := ho 0 (q + 1) i x rfl (by simp [hq, hqe]) (by omega) hmx a.length pa (by simp) (by rw [List.getElem?_append_left hpa]; simp [hpa, hpae])
        omega
    simp only [List.map_cons, runO, Option.bind_eq_some_iff] at h
    obtain ⟨⟨e1, s1⟩, h1, h2⟩ := h
    have ih := run_perm O is l1 (a ++ b) e1 s1 r (List.nodup_cons.1 hn).2 hp' (fun p q x y hx hy hlt hm p' q' hx' hy' => by
      have hpx : ∃ p2, (a ++ i :: b)[p2]? = some x ∧ ((p' < a.length ∧ p2 = p') ∨ (a.length ≤ p' ∧ p2 = p' + 1)) := by
        rcases Nat.lt_or_ge p' a.length with h | h
        · exact ⟨p', by rw [List.getElem?_append_left h] at hx' ⊢; exact hx', .inl ⟨h, rfl⟩⟩
        · refine ⟨p' + 1, ?_, .inr ⟨h, rfl⟩⟩
          rw [List.getElem?_append_right h] at hx'
          rw [List.getElem?_append_right (by omega), show p' + 1 - a.length = (p' - a.length) + 1 by omega, List.getElem?_cons_succ]
          exact hx'
      have hqx : ∃ q2, (a ++ i :: b)[q2]? = some y ∧ ((q' < a.length ∧ q2 = q') ∨ (a.length ≤ q' ∧ q2 = q' + 1)) := by
        rcases Nat.lt_or_ge q' a.length with h | h
        · exact ⟨q', by rw [List.getElem?_append_left h] at hy' ⊢; exact hy', .inl ⟨h, rfl⟩⟩
        · refine ⟨q' + 1, ?_, .inr ⟨h, rfl⟩⟩
          rw [List.getElem?_append_right h] at hy'
          rw [List.getElem?_append_right (by omega), show q' + 1 - a.length = (q' - a.length) + 1 by omega, List.getElem?_cons_succ]
          exact hy'
      obtain ⟨p2, k1, k2⟩ := hpx
      obtain ⟨q2, k3, k4⟩ := hqx
      have := ho (p + 1) (q + 1) x y (by simpa using hx) (by simpa using hy) (by omega) hm p2 q2 k1 k3
      omega) h2
    rw [List.map_append, List.map_cons]
    refine run_front O _ _ _ env st r (fun x hx => ?_) ?_
    · obtain ⟨x', hx', rfl⟩ := List.mem_map.1 hx
      exact hfree x' hx'
    · simp only [runO, Option.bind_eq_some_iff]
      rw [← List.map_append]
      exact ⟨(e1, s1), h1, ih⟩


/-! Which places wait for which, at one remove or at many. -/

inductive Reach (deps : List (List Nat)) : Nat → Nat → Prop
  | one (i j : Nat) (ds : List Nat) : deps[j]? = some ds → i ∈ ds → Reach deps i j
  | step (i k j : Nat) (ds : List Nat) : deps[j]? = some ds → k ∈ ds → Reach deps i k → Reach deps i j

theorem valid_reach {deps : List (List Nat)} {l : List Nat} (h : Valid deps l) {i j : Nat} (hr : Reach deps i j) : ∀ q : Nat, l[q]? = some j → ∃ p : Nat, p < q ∧ l[p]? = some i := by
  induction hr with
  | one j ds h1 h2 => exact fun q hq => h.before q j i ds hq h1 h2
  | step k j ds h1 h2 _ ih =>
    intro q hq
    obtain ⟨p, hp1, hp2⟩ := h.before q j k ds hq h1 h2
    obtain ⟨p', h3, h4⟩ := ih p hp2
    exact ⟨p', by omega, h4⟩

/-- Bit i of the j-th number: i is waited for by j. -/
def closGo : List (List Nat) → List Nat → List Nat
  | [], acc => acc
  | ds :: rest, acc => closGo rest (acc ++ [ds.foldl (fun s d => s ||| 2 ^ d ||| acc.getD d 0) 0])

theorem fold_bit (acc : List Nat) : ∀ (ds : List Nat) (s i : Nat), (ds.foldl (fun s d => s ||| 2 ^ d ||| acc.getD d 0) s).testBit i = true → s.testBit i = true ∨ ∃ d ∈ ds, d = i ∨ (acc.getD d 0).testBit i = true
  | [], s, i, h => .inl h
  | d :: ds, s, i, h => by
    simp only [List.foldl_cons] at h
    rcases fold_bit acc ds _ i h with h | ⟨d', h1, h2⟩
    · simp only [Nat.testBit_or, Bool.or_eq_true, Nat.testBit_two_pow, decide_eq_true_eq] at h
      rcases h with (h | h) | h
      · exact .inl h
      · exact .inr ⟨d, by simp, .inl h⟩
      · exact .inr ⟨d, by simp, .inr h⟩
    · exact .inr ⟨d', by simp [h1], h2⟩

theorem closGo_reach (deps : List (List Nat)) : ∀ (rest : List (List Nat)) (acc : List Nat), (∀ k, (hk : k < rest.length) → deps[acc.length + k]? = some rest[k]) → (∀ j i, (acc.getD j 0).testBit i = true → Reach deps i j) →
    ∀ j i, ((closGo rest acc).getD j 0).testBit i = true → Reach deps i j
  | [], acc, _, h, j, i, hj => h j i hj
  | ds :: rest, acc, hd, h, j, i, hj => by
    refine closGo_reach deps rest _ (fun k hk => ?_) (fun j i hj => ?_) j i hj
    · have := hd (k + 1) (by simpa using hk)
      simp only [List.length_append, List.length_cons, List.length_nil]
      rw [show acc.length + (0 + 1) + k = acc.length + (k + 1) by omega]
      simpa using this
    · rcases Nat.lt_trichotomy j acc.length with hlt | heq | hgt
      · refine h j i ?_
        simp only [List.getD] at hj ⊢
        rwa [List.getElem?_append_left hlt] at hj
      · subst heq
        simp only [List.getD, get_app0'] at hj
        have h0 := hd 0 (by simp)
        simp only [Nat.add_zero, List.getElem_cons_zero] at h0
        rcases fold_bit acc ds 0 i hj with hb | ⟨d, h1, h2⟩
        · simp at hb
        · rcases h2 with rfl | h2
          · exact .one _ _ _ h0 h1
          · exact .step _ d _ _ h0 h1 (h d i h2)
      · simp only [List.getD] at hj
        rw [List.getElem?_append_right (by omega), List.getElem?_eq_none (by simp; omega)] at hj
        simp at hj

/-- All that meet wait for each other. -/
def free (is : List AIns) (deps : List (List Nat)) : Bool :=
  let cl := closGo deps []
  (List.range deps.length).all fun j => (List.range j).all fun i => !meet (is.getD i default) (is.getD j default) || (cl.getD j 0).testBit i

theorem awD_static {P : Program} {O : Orc} {is : List AIns} {deps : List (List Nat)} {env : Env} {st : St} {K : Env → St → Prop} (hlen : is.length = deps.length) (hf : free is deps = true) (h : awO O is env st K) : awD (orc P O) is deps env st K := by
  intro l hl
  refine awI_of_awO _ env st K ?_
  obtain ⟨e, s, h1, h2⟩ := (awO_run O is env st K).1 h
  refine (awO_run O _ env st K).2 ⟨e, s, ?_, h2⟩
  have hrange : (List.range deps.length).map (fun i => is.getD i default) = is := by
    apply List.ext_getElem?
    intro k
    rw [List.getElem?_map]
    rcases Nat.lt_or_ge k deps.length with hk | hk
    · rw [List.getElem?_range hk]
      have hk' : k < is.length := by omega
      simp [List.getD, hk']
    · rw [List.getElem?_eq_none (by simpa using hk), List.getElem?_eq_none (by omega)]
      rfl
  refine run_perm O is (List.range deps.length) l env st (e, s) List.nodup_range hl.perm.symm (fun p q i j hp hq hlt hm p' q' hp' hq' => ?_) (by rw [hrange]; exact h1)
  have hpl : p < deps.length := by have := (List.getElem?_eq_some_iff.1 hp).1; simpa using this
  have hql : q < deps.length := by have := (List.getElem?_eq_some_iff.1 hq).1; simpa using this
  rw [List.getElem?_range hpl] at hp
  rw [List.getElem?_range hql] at hq
  injection hp with hp
  injection hq with hq
  subst hp; subst hq
  simp only [free, List.all_eq_true, List.mem_range, Bool.or_eq_true, Bool.not_eq_true'] at hf
  rcases hf q hql p hlt with hmf | hb
  · rw [hm] at hmf; cases hmf
  · have hr : Reach deps p q := closGo_reach deps deps [] (fun k hk => by simp [hk]) (fun j i hj => by simp [List.getD] at hj) q p hb
    obtain ⟨p2, h3, h4⟩ := valid_reach hl hr q' hq'
    have hn : l.Nodup := hl.perm.nodup_iff.2 List.nodup_range
    have hp2 := (List.getElem?_eq_some_iff.1 h4)
    have hp1 := (List.getElem?_eq_some_iff.1 hp')
    have : p2 = p' := by
      have hpw := List.pairwise_iff_getElem.1 hn
      rcases Nat.lt_trichotomy p2 p' with h | h | h
      · exact absurd (hp2.2.trans hp1.2.symm) (hpw _ _ hp2.1 hp1.1 h)
      · exact h
      · exact absurd (hp1.2.trans hp2.2.symm) (hpw _ _ hp1.1 hp2.1 h)
    omega

end Go.Am

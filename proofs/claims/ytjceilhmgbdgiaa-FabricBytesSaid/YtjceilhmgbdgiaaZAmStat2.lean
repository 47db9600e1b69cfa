/- Regions whose order is open, with calls that change the state: what only reckons may go ahead of them. -/
import Derived.Test.YtjceilhmgbdgiaaZAmEval
set_option linter.all false
namespace Go.Am

/-- One instruction's run depends on what it reads, and on the state. -/
theorem awI_one {C : Calls1} (hC : ∀ f vs st (K K' : AV → St → Prop), C f vs st K → (∀ v st', K v st' → K' v st') → C f vs st K') {i : AIns} {e1 e2 : Env} {st : St} {K K' : Env → St → Prop}
    (hw : wantedA i.guard e1 = wantedA i.guard e2) (ha : i.args.map (opdV e1) = i.args.map (opdV e2)) (h : awI C [i] e1 st K) (hk : ∀ v s, K (put e1 i.dst v) s → K' (put e2 i.dst v) s) : awI C [i] e2 st K' := by
  simp only [awI] at h ⊢
  rw [← hw]
  cases h1 : wantedA i.guard e1 with
  | none => simp [h1] at h
  | some b =>
    rw [h1] at h
    cases b with
    | false => exact hk _ _ h
    | true =>
      simp only [] at h ⊢
      cases hkd : i.kind with
      | prim op =>
        rw [hkd] at h
        simp only [] at h ⊢
        rw [← ha]
        cases he : evA op (i.args.map (opdV e1)) st with
        | none => simp [he] at h
        | some p => rw [he] at h; exact hk _ _ h
      | call f =>
        rw [hkd] at h
        simp only [] at h ⊢
        rw [← ha]
        exact hC _ _ _ _ _ h (fun v st' hh => hk _ _ hh)
      | callV =>
        rw [hkd] at h
        simp only [] at h ⊢
        rw [← ha]
        split at h
        · exact hC _ _ _ _ _ h (fun v st' hh => hk _ _ hh)
        · exact h.elim

theorem awI_cons {C : Calls1} (i : AIns) (is : List AIns) (env : Env) (st : St) (K : Env → St → Prop) : awI C (i :: is) env st K = awI C [i] env st (fun e s => awI C is e s K) := by
  simp only [awI]

/-- Which calls change the state; which of these only put something behind it; which leave the blocks' sizes. -/
abbrev SK := Kind → Bool × Bool × Bool
def grows (st s : St) : Prop := st.heap <+: s.heap ∧ st.toks <+: s.toks
def sized (st s : St) : Prop := ∀ (l : Nat) (f : Bool) (vs : List AV), st.heap[l]? = some (.cells f vs) → ∃ f' vs', s.heap[l]? = some (.cells f' vs') ∧ vs'.length = vs.length
theorem sized_refl (st : St) : sized st st := fun _ f vs h => ⟨f, vs, h, rfl⟩
def slcP (i : AIns) : Bool :=
  match i.kind with
  | .prim (.slcArr ..) => true
  | _ => false
def readP (i : AIns) : Bool :=
  match i.kind with
  | .prim op => match op.cls with
    | .read => true
    | _ => false
  | _ => false
def pureP (i : AIns) : Bool :=
  match i.kind with
  | .prim op => match op.cls with
    | .pure => true
    | _ => false
  | _ => false

def loadP (i : AIns) : Bool :=
  match i.kind with
  | .prim (.load _) => true
  | _ => false
def rargs : List AV → Bool
  | .rptr _ :: _ => true
  | _ => false
/-- A load that shall read a value does so. -/
def valued (S : SK) (i : AIns) (env : Env) : Prop := (S i.kind).2.1 = true → loadP i = true → wantedA i.guard env = some true → rargs (i.args.map (opdV env)) = true
theorem valued_congr {S : SK} {i : AIns} {e1 e2 : Env} (hw : wantedA i.guard e1 = wantedA i.guard e2) (ha : i.args.map (opdV e1) = i.args.map (opdV e2)) (h : valued S i e1) : valued S i e2 := by
  unfold valued at h ⊢
  rw [← hw, ← ha]
  exact h

/-- Do two instructions' slots meet? -/
def meetD (i j : AIns) : Bool :=
  (match i.dst with | some d => j.reads.contains d || j.dst == some d | none => false) || (match j.dst with | some d => i.reads.contains d | none => false)

def meetS (S : SK) (i j : AIns) : Bool := if (S j.kind).1 then (!(pureP i || (readP i && (S j.kind).2.1) || (slcP i && (S j.kind).2.2) || (loadP i && (S i.kind).2.1)) || (S i.kind).1 || meetD i j) else if (S i.kind).1 then true else meet i j

def pS (S : SK) (C : Calls1) (O : Orc) (i : AIns) (env : Env) (st : St) (K : Env → St → Prop) : Prop :=
  if (S i.kind).1 = true then awI C [i] env st (fun e s => ((S i.kind).2.1 = true → grows st s) ∧ ((S i.kind).2.2 = true → sized st s) ∧ K e s) else match stepO O i env st with
    | some (e, s) => valued S i env ∧ K e s
    | none => False
def awS (S : SK) (C : Calls1) (O : Orc) : List AIns → Env → St → (Env → St → Prop) → Prop
  | [], env, st, K => K env st
  | i :: is, env, st, K => pS S C O i env st fun e s => awS S C O is e s K

theorem pS_mono {S : SK} {C : Calls1} (hC : ∀ f vs st (K K' : AV → St → Prop), C f vs st K → (∀ v st', K v st' → K' v st') → C f vs st K') {O : Orc} {i : AIns} {env : Env} {st : St} {K K' : Env → St → Prop} (h : pS S C O i env st K) (hk : ∀ e s, K e s → K' e s) : pS S C O i env st K' := by
  unfold pS at h ⊢
  split
  · rename_i hS
    rw [if_pos hS] at h
    exact awI_one hC rfl rfl h fun v s hh => ⟨hh.1, hh.2.1, hk _ _ hh.2.2⟩
  · rename_i hS
    rw [if_neg hS] at h
    split at h
    · exact ⟨h.1, hk _ _ h.2⟩
    · exact h.elim
theorem awS_mono {S : SK} {C : Calls1} (hC : ∀ f vs st (K K' : AV → St → Prop), C f vs st K → (∀ v st', K v st' → K' v st') → C f vs st K') {O : Orc} : ∀ {is : List AIns} {env : Env} {st : St} {K K' : Env → St → Prop}, awS S C O is env st K → (∀ e s, K e s → K' e s) → awS S C O is env st K'
  | [], _, _, _, _, h, hk => hk _ _ h
  | _ :: _, _, _, _, _, h, hk => pS_mono hC h fun _ _ hh => awS_mono hC hh hk

theorem awI_of_awS {S : SK} {P : Program} {O : Orc} : ∀ (is : List AIns) (env : Env) (st : St) (K : Env → St → Prop), awS S (orc P O) O is env st K → awI (orc P O) is env st K
  | [], _, _, _, h => h
  | i :: is, env, st, K, h => by
    rw [awI_cons]
    simp only [awS, pS] at h
    split at h
    · exact awI_one orc_mono rfl rfl h fun v s hh => awI_of_awS is _ _ K hh.2.2
    · have : awO O [i] env st (fun e s => awS S (orc P O) O is e s K) := by
        simp only [awO]
        split at h
        · rename_i e s he; rw [he]; exact h.2
        · exact h.elim
      exact awI_one orc_mono rfl rfl (awI_of_awO [i] env st _ this) fun v s hh => awI_of_awS is _ _ K hh

theorem step_pure {O : Orc} {i : AIns} (hp : pureP i = true) {env e1 : Env} {st s1 : St} (h : stepO O i env st = some (e1, s1)) :
    ∃ v, e1 = put env i.dst v ∧ s1 = st ∧ ∀ e s, wantedA i.guard e = wantedA i.guard env → i.args.map (opdV e) = i.args.map (opdV env) → stepO O i e s = some (put e i.dst v, s) := by
  unfold stepO at h
  cases hw : wantedA i.guard env with
  | none => simp [hw] at h
  | some b =>
    rw [hw] at h
    cases b with
    | false =>
      simp only [Option.some.injEq, Prod.mk.injEq] at h
      exact ⟨_, h.1.symm, h.2.symm, fun e s h1 h2 => by simp [stepO, h1, hw]⟩
    | true =>
      simp only [Option.map_eq_some_iff] at h
      obtain ⟨⟨v, s'⟩, h1, h2⟩ := h
      simp only [Prod.mk.injEq] at h2
      obtain ⟨rfl, rfl⟩ := h2
      have hc : (match i.kind with | .prim op => op.cls | _ => .pure) = Cls.pure := by
        unfold pureP at hp
        split at hp
        · rename_i op hop
          split at hp
          · assumption
          · cases hp
        · cases hp
      have hq := (evK_cls O i.kind (i.args.map (opdV env)) .pure hc).1 rfl st
      obtain ⟨rfl, _⟩ := hq st v s' h1
      exact ⟨v, rfl, rfl, fun e s g1 g2 => by simp [stepO, g1, hw, g2, (hq s v _ h1).2]⟩

theorem step_read {O : Orc} {i : AIns} (hp : readP i = true) {env e1 : Env} {st s1 : St} (h : stepO O i env st = some (e1, s1)) :
    ∃ v, e1 = put env i.dst v ∧ s1 = st ∧ ∀ e s, grows st s → wantedA i.guard e = wantedA i.guard env → i.args.map (opdV e) = i.args.map (opdV env) → stepO O i e s = some (put e i.dst v, s) := by
  unfold stepO at h
  cases hw : wantedA i.guard env with
  | none => simp [hw] at h
  | some b =>
    rw [hw] at h
    cases b with
    | false =>
      simp only [Option.some.injEq, Prod.mk.injEq] at h
      exact ⟨_, h.1.symm, h.2.symm, fun e s _ h1 h2 => by simp [stepO, h1, hw]⟩
    | true =>
      simp only [Option.map_eq_some_iff] at h
      obtain ⟨⟨v, s'⟩, h1, h2⟩ := h
      simp only [Prod.mk.injEq] at h2
      obtain ⟨rfl, rfl⟩ := h2
      unfold readP at hp
      split at hp
      · rename_i op hop
        split at hp
        · rename_i hc
          rw [hop] at h1
          simp only [evK] at h1
          obtain ⟨g1, rfl⟩ := evA_read hc h1
          refine ⟨v, rfl, rfl, fun e s hg k1 k2 => ?_⟩
          obtain ⟨⟨g, hg1⟩, _⟩ := hg
          have := evR_more g s.toks g1
          rw [hg1] at this
          simp only [stepO, k1, hw, k2, hop, evK]
          rw [show evA op (i.args.map (opdV env)) s = some (v, s) by simp [evA, hc, this]]
          rfl
        · cases hp
      · cases hp

theorem evR_slc {n : Nat} {sz : Option Nat} {lo hi : Bool} {args : List AV} {st s : St} {v : AV} (h : evR (.slcArr n sz lo hi) args st = some v) (hs : sized st s) : evR (.slcArr n sz lo hi) args s = some v := by
  rcases args with _ | ⟨x, bs⟩
  · simp [evR] at h
  · cases x
    case ptr l off =>
      have e : ∀ q : St, evR (.slcArr n sz lo hi) (.ptr l off :: bs) q = (boundsOf lo hi false n bs).bind fun (a, b, _) => match q.heap[l]? with
          | some (.cells _ vs) => if off + n * sz.getD 1 ≤ vs.length ∧ (a = 0 ∨ a < n) then some (.msl l (off + a * sz.getD 1) (b - a) sz) else none
          | _ => none := fun _ => rfl
      rw [e] at h ⊢
      generalize boundsOf lo hi false n bs = B at h ⊢
      cases B with
      | none => simp at h
      | some p =>
        obtain ⟨a, b, m⟩ := p
        simp only [Option.bind_some] at h ⊢
        cases hl : st.heap[l]? with
        | none => simp [hl] at h
        | some k =>
          rw [hl] at h
          cases k with
          | cells f vs =>
            obtain ⟨f', vs', h1, h2⟩ := hs l f vs hl
            rw [h1]
            simp only [h2]
            exact h
          | _ => simp at h
    case rptr w =>
      cases w
      all_goals first
        | (simp [evR] at h; done)
        | exact h
    all_goals simp [evR] at h
theorem step_slc {O : Orc} {i : AIns} (hp : slcP i = true) {env e1 : Env} {st s1 : St} (h : stepO O i env st = some (e1, s1)) :
    ∃ v, e1 = put env i.dst v ∧ s1 = st ∧ ∀ e s, sized st s → wantedA i.guard e = wantedA i.guard env → i.args.map (opdV e) = i.args.map (opdV env) → stepO O i e s = some (put e i.dst v, s) := by
  unfold stepO at h
  cases hw : wantedA i.guard env with
  | none => simp [hw] at h
  | some b =>
    rw [hw] at h
    cases b with
    | false =>
      simp only [Option.some.injEq, Prod.mk.injEq] at h
      exact ⟨_, h.1.symm, h.2.symm, fun e s _ h1 h2 => by simp [stepO, h1, hw]⟩
    | true =>
      simp only [Option.map_eq_some_iff] at h
      obtain ⟨⟨v, s'⟩, h1, h2⟩ := h
      simp only [Prod.mk.injEq] at h2
      obtain ⟨rfl, rfl⟩ := h2
      unfold slcP at hp
      split at hp
      · rename_i n sz lo hi hop
        rw [hop] at h1
        simp only [evK] at h1
        obtain ⟨g1, rfl⟩ := evA_read (op := .slcArr n sz lo hi) rfl h1
        refine ⟨v, rfl, rfl, fun e s hg k1 k2 => ?_⟩
        have : evR (.slcArr n sz lo hi) (i.args.map (opdV env)) s = some v := by
          exact evR_slc g1 hg
        simp only [stepO, k1, hw, k2, hop, evK]
        rw [show evA (.slcArr n sz lo hi) (i.args.map (opdV env)) s = some (v, s) by simp [evA, AOp.cls, this]]
        rfl
      · cases hp

theorem step_load {O : Orc} {i : AIns} (hp : loadP i = true) {env e1 : Env} {st s1 : St} (hv : wantedA i.guard env = some true → rargs (i.args.map (opdV env)) = true) (h : stepO O i env st = some (e1, s1)) :
    ∃ v, e1 = put env i.dst v ∧ s1 = st ∧ ∀ e s, wantedA i.guard e = wantedA i.guard env → i.args.map (opdV e) = i.args.map (opdV env) → stepO O i e s = some (put e i.dst v, s) := by
  unfold stepO at h
  cases hw : wantedA i.guard env with
  | none => simp [hw] at h
  | some b =>
    rw [hw] at h
    cases b with
    | false =>
      simp only [Option.some.injEq, Prod.mk.injEq] at h
      exact ⟨_, h.1.symm, h.2.symm, fun e s h1 h2 => by simp [stepO, h1, hw]⟩
    | true =>
      simp only [Option.map_eq_some_iff] at h
      obtain ⟨⟨v, s'⟩, h1, h2⟩ := h
      simp only [Prod.mk.injEq] at h2
      obtain ⟨rfl, rfl⟩ := h2
      unfold loadP at hp
      split at hp
      · rename_i sz hop
        rw [hop] at h1
        simp only [evK] at h1
        obtain ⟨g1, rfl⟩ := evA_read (op := .load sz) rfl h1
        refine ⟨v, rfl, rfl, fun e s k1 k2 => ?_⟩
        have : evR (.load sz) (i.args.map (opdV env)) s = some v := by
          have hr := hv hw
          generalize i.args.map (opdV env) = as at g1 hr
          cases as with
          | nil => cases hr
          | cons a as =>
            cases a
            case rptr w =>
              rw [← g1]
              cases as <;> rfl
            all_goals cases hr
        simp only [stepO, k1, hw, k2, hop, evK]
        rw [show evA (.load sz) (i.args.map (opdV env)) s = some (v, s) by simp [evA, AOp.cls, this]]
        rfl
      · cases hp

theorem step_dst {O : Orc} {i : AIns} {env e1 : Env} {st s1 : St} (h : stepO O i env st = some (e1, s1)) : ∃ v, e1 = put env i.dst v := by
  unfold stepO at h
  split at h
  · simp only [Option.some.injEq, Prod.mk.injEq] at h
    exact ⟨_, h.1.symm⟩
  · simp only [Option.map_eq_some_iff] at h
    obtain ⟨⟨v, s'⟩, h1, h2⟩ := h
    simp only [Prod.mk.injEq] at h2
    exact ⟨_, h2.1.symm⟩
  · cases h

theorem pS_swap {S : SK} {C : Calls1} (hC : ∀ f vs st (K K' : AV → St → Prop), C f vs st K → (∀ v st', K v st' → K' v st') → C f vs st K') {O : Orc} {i j : AIns} (hm : meetS S i j = false) {env : Env} {st : St} {K : Env → St → Prop}
    (h : pS S C O i env st fun e s => pS S C O j e s K) : pS S C O j env st fun e s => pS S C O i e s K := by
  unfold meetS at hm
  by_cases hj : (S j.kind).1 = true
  · rw [if_pos hj] at hm
    simp only [Bool.or_eq_false_iff, Bool.not_eq_false'] at hm
    obtain ⟨⟨hp, hi⟩, hm⟩ := hm
    simp only [meetD, Bool.or_eq_false_iff] at hm
    obtain ⟨m2, m3⟩ := hm
    have hij : ∀ d, i.dst = some d → d ∉ j.reads ∧ j.dst ≠ some d := fun d hd => by
      rw [hd] at m2
      simp only [Bool.or_eq_false_iff] at m2
      exact ⟨by simpa using m2.1, by simpa using m2.2⟩
    have hji : ∀ d, j.dst = some d → d ∉ i.reads := fun d hd => by
      rw [hd] at m3
      simpa using m3
    simp only [pS, hi, hj, if_true, Bool.false_eq_true, if_false] at h ⊢
    cases hs : stepO O i env st with
    | none => simp [hs] at h
    | some p =>
      obtain ⟨e1, s1⟩ := p
      rw [hs] at h
      simp only [] at h
      have hv : ∃ v, e1 = put env i.dst v ∧ s1 = st ∧ ∀ e s, ((S j.kind).2.1 = true → grows st s) → ((S j.kind).2.2 = true → sized st s) → wantedA i.guard e = wantedA i.guard env → i.args.map (opdV e) = i.args.map (opdV env) → stepO O i e s = some (put e i.dst v, s) := by
        simp only [Bool.or_eq_true, Bool.and_eq_true] at hp
        rcases hp with ((hp | ⟨hp, hG⟩) | ⟨hp, hG⟩) | ⟨hp, hG⟩
        · obtain ⟨v, q1, q2, q3⟩ := step_pure hp hs
          exact ⟨v, q1, q2, fun e s _ _ => q3 e s⟩
        · obtain ⟨v, q1, q2, q3⟩ := step_read hp hs
          exact ⟨v, q1, q2, fun e s hg _ => q3 e s (hg hG)⟩
        · obtain ⟨v, q1, q2, q3⟩ := step_slc hp hs
          exact ⟨v, q1, q2, fun e s _ hg => q3 e s (hg hG)⟩
        · obtain ⟨v, q1, q2, q3⟩ := step_load hp (h.1 hG hp) hs
          exact ⟨v, q1, q2, fun e s _ _ => q3 e s⟩
      obtain ⟨v, rfl, rfl, hv⟩ := hv
      refine awI_one hC (wanted_other fun d hd => (hij d hd).1) (args_other fun d hd => (hij d hd).1) h.2 fun v' s hh => ⟨hh.1, hh.2.1, ?_⟩
      rw [hv _ s hh.1 hh.2.1 (wanted_other hji) (args_other hji)]
      simp only []
      refine ⟨valued_congr (wanted_other hji).symm (args_other hji).symm h.1, ?_⟩
      have hh := hh.2.2
      rw [put_comm (fun d hd => (hij d hd).2)] at hh
      exact hh
  · rw [if_neg hj] at hm
    by_cases hi : (S i.kind).1 = true
    · rw [if_pos hi] at hm; cases hm
    · rw [if_neg hi] at hm
      simp only [Bool.not_eq_true] at hi hj
      simp only [pS, hi, hj, Bool.false_eq_true, if_false] at h ⊢
      cases hs : stepO O i env st with
      | none => simp [hs] at h
      | some p =>
        obtain ⟨e1, s1⟩ := p
        rw [hs] at h
        simp only [] at h
        obtain ⟨hvi, h⟩ := h
        cases hs2 : stepO O j e1 s1 with
        | none => simp [hs2] at h
        | some p2 =>
          obtain ⟨e2, s2⟩ := p2
          rw [hs2] at h
          obtain ⟨e', s', g1, g2⟩ := step_swap O hm hs hs2
          obtain ⟨v1, d1⟩ := step_dst hs
          obtain ⟨v2, d2⟩ := step_dst g1
          simp only [meet, Bool.or_eq_false_iff] at hm
          obtain ⟨⟨_, m2⟩, m3⟩ := hm
          have hij : ∀ d, i.dst = some d → d ∉ j.reads := fun d hd => by
            rw [hd] at m2
            simp only [Bool.or_eq_false_iff] at m2
            simpa using m2.1
          have hji : ∀ d, j.dst = some d → d ∉ i.reads := fun d hd => by
            rw [hd] at m3
            simpa using m3
          rw [g1]
          simp only []
          rw [g2]
          refine ⟨?_, ?_, h.2⟩
          · have := h.1
            rw [d1] at this
            exact valued_congr (wanted_other hij) (args_other hij) this
          · rw [d2]
            exact valued_congr (wanted_other hji).symm (args_other hji).symm hvi

theorem awS_front {S : SK} {C : Calls1} (hC : ∀ f vs st (K K' : AV → St → Prop), C f vs st K → (∀ v st', K v st' → K' v st') → C f vs st K') {O : Orc} : ∀ (p : List AIns) (i : AIns) (q : List AIns) (env : Env) (st : St) (K : Env → St → Prop), (∀ x ∈ p, meetS S i x = false) → awS S C O (i :: (p ++ q)) env st K → awS S C O (p ++ i :: q) env st K
  | [], i, q, env, st, K, _, h => h
  | x :: p, i, q, env, st, K, hm, h => by
    refine pS_mono hC (pS_swap hC (hm x (by simp)) h) fun e s hh => ?_
    exact awS_front hC p i q e s K (fun y hy => hm y (by simp [hy])) hh

theorem awS_perm {S : SK} {C : Calls1} (hC : ∀ f vs st (K K' : AV → St → Prop), C f vs st K → (∀ v st', K v st' → K' v st') → C f vs st K') (O : Orc) (is : List AIns) : ∀ (l1 l2 : List Nat) (env : Env) (st : St) (K : Env → St → Prop), l1.Nodup → l1.Perm l2 →
    (∀ (p q : Nat) (i j : Nat), l1[p]? = some i → l1[q]? = some j → p < q → meetS S (is.getD i default) (is.getD j default) = true → ∀ (p' q' : Nat), l2[p']? = some i → l2[q']? = some j → p' < q') →
    awS S C O (l1.map fun i => is.getD i default) env st K → awS S C O (l2.map fun i => is.getD i default) env st K
  | [], l2, env, st, K, _, hp, _, h => by
    have : l2 = [] := by simpa using hp.length_eq.symm
    subst this
    exact h
  | i :: l1, l2, env, st, K, hn, hp, ho, h => by
    have hi : i ∈ l2 := hp.mem_iff.1 (by simp)
    obtain ⟨a, b, rfl⟩ := List.append_of_mem hi
    have hp' : l1.Perm (a ++ b) := (List.perm_cons i).1 (hp.trans List.perm_middle)
    have hfree : ∀ x ∈ a, meetS S (is.getD i default) (is.getD x default) = false := fun x hx => by
      cases hmx : meetS S (is.getD i default) (is.getD x default) with
      | false => rfl
      | true =>
        exfalso
        have hx1 : x ∈ l1 := hp'.mem_iff.2 (by simp [hx])
        obtain ⟨q, hq, hqe⟩ := List.mem_iff_getElem.1 hx1
        obtain ⟨pa, hpa, hpae⟩ := List.mem_iff_getElem.1 hx
        have := ho 0 (q + 1) i x rfl (by simp [hq, hqe]) (by omega) hmx a.length pa (by simp) (by rw [List.getElem?_append_left hpa]; simp [hpa, hpae])
        omega
    have ih : ∀ e s, awS S C O (l1.map fun i => is.getD i default) e s K → awS S C O ((a ++ b).map fun i => is.getD i default) e s K := fun e s hh => awS_perm hC O is l1 (a ++ b) e s K (List.nodup_cons.1 hn).2 hp' (fun p q x y hx hy hlt hm p' q' hx' hy' => by
      have hpx : ∃ p2, (a ++ i :: b)[p2]? = some x ∧ ((p' < a.length ∧ p2 = p') ∨ (a.length ≤ p' ∧ p2 = p' + 1)) := by
        rcases Nat.lt_or_ge p' a.length with h | h
        · exact ⟨p', by rw [List.getElem?_append_left h] at hx' ⊢; exact hx', .inl ⟨h, rfl⟩⟩
        · refine ⟨p' + 1, ?_, .inr ⟨h, rfl⟩⟩
          rw [List.getElem?_append_right h] at hx'
          rw [List.getElem?_append_right (by omega), show p' + 1 - a.length = (p' - a.length) + 1 by omega, List.getElem?_cons_succ]
          exact hx'
      have hqx : ∃ q2, (a ++ i :: b)[q2]? = some y ∧ ((q' < a.length ∧ q2 = q') ∨ (a.length ≤ q' ∧ q2 = q' + 1)) := by
        rcases Nat.lt_or_ge q' a.length with h | h
        · exact ⟨q', by rw [List.getElem?_append_left h] at hy' ⊢; exact hy', .inl ⟨h, rfl⟩⟩
        · refine ⟨q' + 1, ?_, .inr ⟨h, rfl⟩⟩
          rw [List.getElem?_append_right h] at hy'
          rw [List.getElem?_append_right (by omega), show q' + 1 - a.length = (q' - a.length) + 1 by omega, List.getElem?_cons_succ]
          exact hy'
      obtain ⟨p2, k1, k2⟩ := hpx
      obtain ⟨q2, k3, k4⟩ := hqx
      have := ho (p + 1) (q + 1) x y (by simpa using hx) (by simpa using hy) (by omega) hm p2 q2 k1 k3
      omega) hh
    rw [List.map_append, List.map_cons]
    refine awS_front hC _ _ _ env st K (fun x hx => ?_) ?_
    · obtain ⟨x', hx', rfl⟩ := List.mem_map.1 hx
      exact hfree x' hx'
    · rw [← List.map_append]
      exact pS_mono hC h fun e s hh => ih e s hh

/-- The order l0 stands for all: those that meet wait for each other. -/
def freeS (S : SK) (is : List AIns) (deps : List (List Nat)) (l0 : List Nat) : Bool :=
  let cl := closGo deps []
  decide (l0.Perm (List.range deps.length)) && (List.range l0.length).all fun q => (List.range q).all fun p =>
    !meetS S (is.getD (l0.getD p 0) default) (is.getD (l0.getD q 0) default) || (cl.getD (l0.getD q 0) 0).testBit (l0.getD p 0)

theorem awD_state {S : SK} {P : Program} {O : Orc} {is : List AIns} {deps : List (List Nat)} (l0 : List Nat) {env : Env} {st : St} {K : Env → St → Prop} (hf : freeS S is deps l0 = true) (h : awS S (orc P O) O (l0.map fun i => is.getD i default) env st K) : awD (orc P O) is deps env st K := by
  intro l hl
  refine awI_of_awS (S := S) _ env st K ?_
  simp only [freeS, Bool.and_eq_true, decide_eq_true_eq, List.all_eq_true, List.mem_range, Bool.or_eq_true, Bool.not_eq_true'] at hf
  obtain ⟨hp0, hf⟩ := hf
  have hn0 : l0.Nodup := hp0.nodup_iff.2 List.nodup_range
  refine awS_perm orc_mono O is l0 l env st K hn0 (hp0.trans hl.perm.symm) (fun p q i j hp hq hlt hm p' q' hp' hq' => ?_) h
  have hpl := (List.getElem?_eq_some_iff.1 hp).1
  have hql := (List.getElem?_eq_some_iff.1 hq).1
  have gp : l0.getD p 0 = i := by simp [List.getD, hp]
  have gq : l0.getD q 0 = j := by simp [List.getD, hq]
  have := hf q hql p hlt
  rw [gp, gq] at this
  rcases this with hmf | hb
  · rw [hm] at hmf; cases hmf
  · have hr : Reach deps i j := closGo_reach deps deps [] (fun k hk => by simp [hk]) (fun j i hj => by simp [List.getD] at hj) j i hb
    obtain ⟨p2, h3, h4⟩ := valid_reach hl hr q' hq'
    have hn : l.Nodup := hl.perm.nodup_iff.2 List.nodup_range
    have hp2 := (List.getElem?_eq_some_iff.1 h4)
    have hp1 := (List.getElem?_eq_some_iff.1 hp')
    have : p2 = p' := by
      have hpw := List.pairwise_iff_getElem.1 hn
      rcases Nat.lt_trichotomy p2 p' with h | h | h
      · exact absurd (hp2.2.trans hp1.2.symm) (hpw _ _ hp2.1 hp1.1 h)
      · exact h
      · exact absurd (hp1.2.trans hp2.2.symm) (hpw _ _ hp1.1 hp2.1 h)
    omega

/-- Calls of these functions, and of values, change the state; those of G only put something behind it (0 in G: those of values); those of Z leave the blocks' sizes (0: of values). V: all loads read values. -/
def SLV (V : Bool) (L G Z : List Nat) : SK
  | .prim (.load _) => (false, V, false)
  | .prim _ => (false, false, false)
  | .call f => (L.contains f || G.contains f || Z.contains f, G.contains f, Z.contains f)
  | .callV => (true, G.contains 0, Z.contains 0)
abbrev SL (L G Z : List Nat) : SK := SLV false L G Z
def runS (L G Z : List Nat) (C : Calls1) (O : Orc) (K : Env → St → Prop) : Run := fun is env st => awS (SLV false L G Z) C O is env st K
def runV (L G Z : List Nat) (C : Calls1) (O : Orc) (K : Env → St → Prop) : Run := fun is env st => awS (SLV true L G Z) C O is env st K
theorem region_state {P : Program} {O : Orc} {is : List AIns} {deps : List (List Nat)} (L G : List Nat) (l0 : List Nat) {env : Env} {st : St} {K : Exit → Env → St → Prop} (hf : freeS (SL L G []) is deps l0 = true) (h : runS L G [] (orc P O) O (regK K) (l0.map fun i => is.getD i default) env st) : awC (orc P O) (.region is (some deps)) env st K :=
  awD_state l0 hf h
theorem region_sized {P : Program} {O : Orc} {is : List AIns} {deps : List (List Nat)} (L G Z : List Nat) (l0 : List Nat) {env : Env} {st : St} {K : Exit → Env → St → Prop} (hf : freeS (SL L G Z) is deps l0 = true) (h : runS L G Z (orc P O) O (regK K) (l0.map fun i => is.getD i default) env st) : awC (orc P O) (.region is (some deps)) env st K :=
  awD_state l0 hf h
theorem region_vals {P : Program} {O : Orc} {is : List AIns} {deps : List (List Nat)} (L G Z : List Nat) (l0 : List Nat) {env : Env} {st : St} {K : Exit → Env → St → Prop} (hf : freeS (SLV true L G Z) is deps l0 = true) (h : runV L G Z (orc P O) O (regK K) (l0.map fun i => is.getD i default) env st) : awC (orc P O) (.region is (some deps)) env st K :=
  awD_state l0 hf h
/-- Behind a call that leaves the blocks' sizes. -/
def sizeA (b : Bool) (st : St) (K : AV → St → Prop) : AV → St → Prop := fun v s => (b = true → sized st s) ∧ K v s
/-- Behind a call that may only put something behind the state. -/
def growA (b : Bool) (st : St) (K : AV → St → Prop) : AV → St → Prop := fun v s => (b = true → grows st s) ∧ K v s
@[simp] def isLoad : AOp → Bool
  | .load _ => true
  | _ => false
section
variable (L G Z : List Nat) (C : Calls1) (O : Orc) (K : Env → St → Prop) (env : Env) (st : St) (args : List AOpd) (dst : Option Nat) (is : List AIns) (V : Bool)
@[simp] theorem growA_false (K : AV → St → Prop) : growA false st K = K := by
  funext v s
  simp [growA]
@[simp] theorem growA_true (K : AV → St → Prop) (v : AV) (s : St) : growA true st K v s = ((st.heap <+: s.heap ∧ st.toks <+: s.toks) ∧ K v s) := by
  simp [growA, grows]
@[simp] theorem sizeA_false (K : AV → St → Prop) : sizeA false st K = K := by
  funext v s
  simp [sizeA]
@[simp] theorem sizeA_true (K : AV → St → Prop) (v : AV) (s : St) : sizeA true st K v s = (sized st s ∧ K v s) := by
  simp [sizeA]
def runSV (C : Calls1) (O : Orc) (K : Env → St → Prop) : Run := fun is env st => awS (SLV V L G Z) C O is env st K
theorem awSV_prim (op : AOp) : runSV L G Z V C O K (⟨.prim op, args, dst, none⟩ :: is) env st = ((V = true → isLoad op = true → rargs (args.map (opdV env)) = true) ∧ stepK (evA op (args.map (opdV env)) st) (runSV L G Z V C O K) dst is env) := by
  have hS : (SLV V L G Z (.prim op)).1 = false := by cases op <;> rfl
  simp only [runSV, awS, pS, hS, stepO, wantedA, evK, Bool.false_eq_true, if_false]
  have hV : valued (SLV V L G Z) ⟨.prim op, args, dst, none⟩ env = (V = true → isLoad op = true → rargs (args.map (opdV env)) = true) := by
    unfold valued
    cases op
    case load sz =>
      show (V = true → loadP ⟨.prim (.load sz), args, dst, none⟩ = true → some true = some true → _) = _
      have : loadP ⟨.prim (.load sz), args, dst, none⟩ = true := rfl
      simp [this]
    all_goals
      simp [SLV]
  cases evA op (args.map (opdV env)) st with
  | none => simp [stepK]
  | some p =>
    obtain ⟨v, s⟩ := p
    simp only [Option.map_some, hV]
    rfl
theorem valued_call (f : Nat) (gd : Option (Nat × Bool)) : valued (SLV V L G Z) ⟨.call f, args, dst, gd⟩ env = True := by
  refine eq_true fun _ h => ?_
  cases h
theorem awSV_call (f : Nat) : runSV L G Z V C O K (⟨.call f, args, dst, none⟩ :: is) env st = if (L.contains f || G.contains f || Z.contains f) = true then C f (args.map (opdV env)) st (growA (G.contains f) st (sizeA (Z.contains f) st (contK (runSV L G Z V C O K) dst is env))) else tabK ((args.map (opdV env)).any isMsl) (O f (normL (args.map (opdV env)))) st (contK (runSV L G Z V C O K) dst is env) := by
  by_cases h : (L.contains f || G.contains f || Z.contains f) = true
  · rw [if_pos h]
    simp only [runSV, awS, pS, SLV, h, if_true]
    rfl
  · rw [if_neg h]
    simp only [runSV, awS, pS, SLV, h, if_false, stepO, wantedA, evK]
    have hv := valued_call L G Z env args dst V f none
    cases (args.map (opdV env)).any isMsl
    · cases O f (normL (args.map (opdV env)))
      · rfl
      · simp only [if_false, Option.map_some, hv, true_and, Bool.false_eq_true]
        rfl
    · rfl
theorem awSV_callV : runSV L G Z V C O K (⟨.callV, args, dst, none⟩ :: is) env st = callvK C (args.map (opdV env)) st (growA (G.contains 0) st (sizeA (Z.contains 0) st (contK (runSV L G Z V C O K) dst is env))) := by
  exact awI_callV C (fun e s => (G.contains 0 = true → grows st s) ∧ (Z.contains 0 = true → sized st s) ∧ runSV L G Z V C O K is e s) env st args dst []
theorem awSV_guard (k : Kind) (t : Nat) (b : Bool) : runSV L G Z V C O K (⟨k, args, dst, some (t, b)⟩ :: is) env st = guardK (wantedA (some (t, b)) env) (runSV L G Z V C O K) ⟨k, args, dst, none⟩ is env st := by
  cases hw : wantedA (some (t, b)) env with
  | none =>
    simp only [runSV, awS, pS, stepO, awI, hw]
    split <;> rfl
  | some c =>
    cases c
    · have hv : valued (SLV V L G Z) ⟨k, args, dst, some (t, b)⟩ env = True := eq_true fun _ _ h => by
        simp only [hw, Option.some.injEq, Bool.false_eq_true] at h
      simp only [runSV, awS, pS, stepO, awI, hw, guardK]
      split
      · have : grows st st := ⟨List.prefix_refl _, List.prefix_refl _⟩
        simp [this, sized_refl]
      · simp only [hv, true_and]
    · have hv : valued (SLV V L G Z) ⟨k, args, dst, some (t, b)⟩ env = valued (SLV V L G Z) ⟨k, args, dst, none⟩ env := by
        have h2 : wantedA none env = some true := rfl
        simp only [valued, hw, h2]
        rfl
      simp only [runSV, awS, pS, stepO, awI, hw, guardK, hv]
      rfl
@[simp] theorem awS_nil : runS L G Z C O K [] env st = K env st := (rfl)
@[simp] theorem awS_prim (op : AOp) : runS L G Z C O K (⟨.prim op, args, dst, none⟩ :: is) env st = stepK (evA op (args.map (opdV env)) st) (runS L G Z C O K) dst is env := by
  have := awSV_prim L G Z C O K env st args dst is false op
  simp only [Bool.false_eq_true, false_implies, true_and] at this
  exact this
@[simp] theorem awS_call (f : Nat) : runS L G Z C O K (⟨.call f, args, dst, none⟩ :: is) env st = if (L.contains f || G.contains f || Z.contains f) = true then C f (args.map (opdV env)) st (growA (G.contains f) st (sizeA (Z.contains f) st (contK (runS L G Z C O K) dst is env))) else tabK ((args.map (opdV env)).any isMsl) (O f (normL (args.map (opdV env)))) st (contK (runS L G Z C O K) dst is env) :=
  awSV_call L G Z C O K env st args dst is false f
@[simp] theorem awS_callV : runS L G Z C O K (⟨.callV, args, dst, none⟩ :: is) env st = callvK C (args.map (opdV env)) st (growA (G.contains 0) st (sizeA (Z.contains 0) st (contK (runS L G Z C O K) dst is env))) :=
  awSV_callV L G Z C O K env st args dst is false
@[simp] theorem awS_guard (k : Kind) (t : Nat) (b : Bool) : runS L G Z C O K (⟨k, args, dst, some (t, b)⟩ :: is) env st = guardK (wantedA (some (t, b)) env) (runS L G Z C O K) ⟨k, args, dst, none⟩ is env st :=
  awSV_guard L G Z C O K env st args dst is false k t b
@[simp] theorem awV_nil : runV L G Z C O K [] env st = K env st := (rfl)
@[simp] theorem awV_prim (op : AOp) : runV L G Z C O K (⟨.prim op, args, dst, none⟩ :: is) env st = ((isLoad op = true → rargs (args.map (opdV env)) = true) ∧ stepK (evA op (args.map (opdV env)) st) (runV L G Z C O K) dst is env) := by
  have := awSV_prim L G Z C O K env st args dst is true op
  simp only [forall_const] at this
  exact this
@[simp] theorem awV_call (f : Nat) : runV L G Z C O K (⟨.call f, args, dst, none⟩ :: is) env st = if (L.contains f || G.contains f || Z.contains f) = true then C f (args.map (opdV env)) st (growA (G.contains f) st (sizeA (Z.contains f) st (contK (runV L G Z C O K) dst is env))) else tabK ((args.map (opdV env)).any isMsl) (O f (normL (args.map (opdV env)))) st (contK (runV L G Z C O K) dst is env) :=
  awSV_call L G Z C O K env st args dst is true f
@[simp] theorem awV_callV : runV L G Z C O K (⟨.callV, args, dst, none⟩ :: is) env st = callvK C (args.map (opdV env)) st (growA (G.contains 0) st (sizeA (Z.contains 0) st (contK (runV L G Z C O K) dst is env))) :=
  awSV_callV L G Z C O K env st args dst is true
@[simp] theorem awV_guard (k : Kind) (t : Nat) (b : Bool) : runV L G Z C O K (⟨k, args, dst, some (t, b)⟩ :: is) env st = guardK (wantedA (some (t, b)) env) (runV L G Z C O K) ⟨k, args, dst, none⟩ is env st :=
  awSV_guard L G Z C O K env st args dst is true k t b
@[simp] theorem rargs_rptr (v : AV) (l : List AV) : rargs (.rptr v :: l) = true := (rfl)
end

/-! A region whose loads all read values: its stores may go anywhere. -/
def SLW : SK
  | .prim (.store _) => (true, false, false)
  | .prim (.load _) => (false, true, false)
  | _ => (false, false, false)
def runW (C : Calls1) (O : Orc) (K : Env → St → Prop) : Run := fun is env st => awS SLW C O is env st K
theorem region_stores {P : Program} {O : Orc} {is : List AIns} {deps : List (List Nat)} (l0 : List Nat) {env : Env} {st : St} {K : Exit → Env → St → Prop} (hf : freeS SLW is deps l0 = true) (h : runW (orc P O) O (regK K) (l0.map fun i => is.getD i default) env st) : awC (orc P O) (.region is (some deps)) env st K :=
  awD_state l0 hf h
section
variable (C : Calls1) (O : Orc) (K : Env → St → Prop) (env : Env) (st : St) (args : List AOpd) (dst : Option Nat) (is : List AIns)
@[simp] theorem runW_nil : runW C O K [] env st = K env st := (rfl)
def isStore : AOp → Bool
  | .store _ => true
  | _ => false
theorem runW_prim (op : AOp) (h : isStore op = false) : runW C O K (⟨.prim op, args, dst, none⟩ :: is) env st = ((isLoad op = true → rargs (args.map (opdV env)) = true) ∧ stepK (evA op (args.map (opdV env)) st) (runW C O K) dst is env) := by
  have hS : (SLW (.prim op)).1 = false := by cases op <;> first | rfl | cases h
  simp only [runW, awS, pS, hS, stepO, wantedA, evK, Bool.false_eq_true, if_false]
  have hV : valued SLW ⟨.prim op, args, dst, none⟩ env = (isLoad op = true → rargs (args.map (opdV env)) = true) := by
    unfold valued
    cases op
    case load sz =>
      show (_ → loadP ⟨.prim (.load sz), args, dst, none⟩ = true → some true = some true → _) = _
      have : loadP ⟨.prim (.load sz), args, dst, none⟩ = true := rfl
      simp [this, SLW]
    all_goals
      simp [SLW, isLoad, loadP]
  cases evA op (args.map (opdV env)) st with
  | none => simp [stepK]
  | some p =>
    obtain ⟨v, s⟩ := p
    simp only [Option.map_some, hV]
    rfl
theorem runW_store (sz : Option Nat) : runW C O K (⟨.prim (.store sz), args, dst, none⟩ :: is) env st = stepK (evA (.store sz) (args.map (opdV env)) st) (runW C O K) dst is env := by
  simp only [runW, awS, pS, SLW, if_true, awI, wantedA]
  cases evA (.store sz) (args.map (opdV env)) st with
  | none => rfl
  | some p =>
    obtain ⟨v, s⟩ := p
    simp [stepK]
    exact Iff.rfl
attribute [simp] isStore
@[simp] theorem runW_op (op : AOp) : runW C O K (⟨.prim op, args, dst, none⟩ :: is) env st = if isStore op = true then stepK (evA op (args.map (opdV env)) st) (runW C O K) dst is env else ((isLoad op = true → rargs (args.map (opdV env)) = true) ∧ stepK (evA op (args.map (opdV env)) st) (runW C O K) dst is env) := by
  cases h : isStore op with
  | true =>
    cases op <;> first | (simp at h; done) | skip
    rw [if_pos rfl]
    exact runW_store C O K env st args dst is _
  | false =>
    rw [if_neg (by simp)]
    exact runW_prim C O K env st args dst is op h
end
end Go.Am

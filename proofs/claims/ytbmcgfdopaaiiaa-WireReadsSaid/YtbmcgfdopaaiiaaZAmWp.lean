/- The abstract machine's code: what a run through it leaves; that this is so of the model's code. -/
import Derived.Test.YtbmcgfdopaaiiaaZAmSound12
set_option linter.all false
namespace Go.Am

abbrev Env := Nat → AV

def put (env : Env) (d : Option Nat) (v : AV) : Env :=
  match d with
  | some d => fun t => if t = d then v else env t
  | none => env

def opdV (env : Env) : AOpd → AV
  | .tmp t => env t
  | .const v => v

/-- Is an instruction carried out? -/
def wantedA (g : Option (Nat × Bool)) (env : Env) : Option Bool :=
  match g with
  | none => some true
  | some (t, want) => match env t with
    | .bool b => some (b == want)
    | .tup _ => some false
    | _ => none

/-- An argument that is handed over: a slice that was made is written no more. -/
def frz1 (v : AV) (st : St) : Option (AV × St) :=
  match v with
  | .msl l off len sz => match st.heap[l]? with
    | some (.cells _ vs) => if off + len * sz.getD 1 ≤ vs.length ∧ 0 < sz.getD 1 then some (.sl .any (chunk sz len (vs.drop off)), { st with heap := st.heap.set l (.cells true vs) }) else none
    | _ => none
  | v => some (v.norm, st)

def frzs : List AV → St → Option (List AV × St)
  | [], st => some ([], st)
  | v :: vs, st => (frz1 v st).bind fun (v', st') => (frzs vs st').map fun (vs', st'') => (v' :: vs', st'')

abbrev Calls1 := Nat → List AV → St → (AV → St → Prop) → Prop

def awI (C : Calls1) : List AIns → Env → St → (Env → St → Prop) → Prop
  | [], env, st, K => K env st
  | i :: is, env, st, K =>
    match wantedA i.guard env with
    | some false => awI C is (put env i.dst (.tup [])) st K
    | some true => match i.kind with
      | .prim op => match evA op (i.args.map (opdV env)) st with
        | some (v, st') => awI C is (put env i.dst v) st' K
        | none => False
      | .call f => C f (i.args.map (opdV env)) st fun v st' => awI C is (put env i.dst v) st' K
      | .callV => match i.args.map (opdV env) with
        | .fn (.func f) first caps :: xs => C f (first ++ xs ++ caps) st fun v st' => awI C is (put env i.dst v) st' K
        | _ => False
    | none => False

/-- What a call of a function leaves. -/
def ASpec (P : Program) (f : Nat) (args : List AV) (st : St) (R : AV → St → Prop) : Prop :=
  (∀ (vs : Array Value) (w : World), (callFunc f vs).run P w = .ok (.enter f vs) w) ∧
  ∀ (G : Gh) (w : World) (vs : Array Value), Inv G w st → ListRel G w args vs.toList → Calls P f vs w fun e w' => match e with
    | .outgrown => False
    | .panicked _ => False
    | .returned y => ∃ G' v st', R v st' ∧ Inv G' w' st' ∧ Ext G w G' w' st.heap.length st.toks.length ∧ VRel G' w' v y ∧ st.heap.length ≤ st'.heap.length ∧ st.toks.length ≤ st'.toks.length

theorem ASpec.mono {P : Program} {f : Nat} {args : List AV} {st : St} {R R' : AV → St → Prop} (h : ASpec P f args st R) (hr : ∀ v st', R v st' → R' v st') : ASpec P f args st R' := by
  refine ⟨h.1, fun G w vs hI hv => (h.2 G w vs hI hv).mono fun e w' he => ?_⟩
  cases e with
  | returned y => obtain ⟨G', v, st', q1, q2⟩ := he; exact ⟨G', v, st', hr _ _ q1, q2⟩
  | panicked c => exact he
  | outgrown => exact he

def TRel (G : Gh) (w : World) (env : Env) (tmps : Array Value) : Prop := ∀ t, VRel G w (env t) (tmps.getD t undef)

theorem TRel.put {G G' : Gh} {w w' : World} {env : Env} {tmps : Array Value} (h : TRel G w env tmps) (hv : ∀ v x, VRel G w v x → VRel G' w' v x) {d : Option Nat} {N : Nat} (hd : ∀ t, d = some t → t < N) (hN : N ≤ tmps.size) {v : AV} {y : Value} (hy : VRel G' w' v y) (a : Act) (ha : a.tmps = tmps) :
    TRel G' w' (put env d v) (a.put d y).tmps ∧ (a.put d y).tmps.size = tmps.size ∧ (a.put d y).defers = a.defers := by
  subst ha
  cases d with
  | none => exact ⟨fun t => hv _ _ (h t), rfl, rfl⟩
  | some d =>
    have hlt : d < a.tmps.size := by have := hd d rfl; omega
    refine ⟨fun t => ?_, by simp [Act.put], rfl⟩
    show VRel G' w' (if t = d then v else env t) ((a.tmps.setIfInBounds d y).getD t undef)
    by_cases e : t = d
    · subst e
      rw [if_pos rfl]
      simp [Array.getD, hlt]
      exact hy
    · rw [if_neg e]
      have := hv _ _ (h t)
      have e2 : (a.tmps.setIfInBounds d y).getD t undef = a.tmps.getD t undef := by
        simp only [Array.getD, Array.size_setIfInBounds]
        split
        · rw [Array.getInternal_eq_getElem, Array.getInternal_eq_getElem, Array.getElem_setIfInBounds_ne]; omega
        · rfl
      rw [e2]
      exact this

theorem opds_rel {G : Gh} {w : World} {env : Env} {a : Act} (h : TRel G w env a.tmps) : ∀ {xs : List Operand} {as : List AOpd}, xs.mapM opdA = some as → ListRel G w (as.map (opdV env)) (xs.map a.eval)
  | [], as, hm => by simp at hm; subst hm; exact ⟨rfl, by simp⟩
  | x :: xs, as, hm => by
    simp only [List.mapM_cons, Option.bind_eq_bind] at hm
    cases h1 : opdA x with
    | none => simp [h1] at hm
    | some o =>
      cases h2 : xs.mapM opdA with
      | none => simp [h1, h2] at hm
      | some as' =>
        simp [h1, h2] at hm
        subst hm
        have ih := opds_rel (G := G) (w := w) (env := env) (a := a) h h2
        have hx : VRel G w (opdV env o) (a.eval x) := by
          cases x with
          | tmp t => simp [opdA] at h1; subst h1; exact h t
          | const v =>
            cases hc : constA v with
            | none => simp [opdA, hc] at h1
            | some c => simp [opdA, hc] at h1; subst h1; exact (constA_sound hc).1
          | global g => simp [opdA] at h1
          | func f => simp [opdA] at h1; subst h1; exact .fn _ _ _ _ _ rfl rfl (by simp) (by simp)
        refine ⟨by simp [ih.1], fun i c v hc hv => ?_⟩
        cases i with
        | zero => simp at hc hv; subst hc; subst hv; exact hx
        | succ i => exact ih.2 i c v (by simpa using hc) (by simpa using hv)

theorem wanted_rel {G : Gh} {w : World} {env : Env} {a : Act} (h : TRel G w env a.tmps) {ops : Array Oper} {o : Oper} {g : Option (Nat × Bool)} {b : Bool}
    (hg : match o.guard with | none => g = none | some (j, want) => ∃ t, (ops[j]?).bind (·.dst) = some t ∧ g = some (t, want)) (hw : wantedA g env = some b) : Region.wanted o (yielded ops a.tmps) = b := by
  unfold Region.wanted
  cases ho : o.guard with
  | none =>
    rw [ho] at hg
    simp only [] at hg
    subst hg
    simp [wantedA] at hw
    simpa using hw
  | some p =>
    obtain ⟨j, want⟩ := p
    rw [ho] at hg
    obtain ⟨t, ht, rfl⟩ := hg
    have hv := h t
    simp only [wantedA] at hw
    simp only [yielded, ht, Option.bind_some]
    have hget : ∀ x, a.tmps.getD t undef = x → x ≠ undef → a.tmps[t]? = some x := fun x hx hne => by
      simp only [Array.getD] at hx
      split at hx
      · rename_i hlt; simp [hlt]; simpa using hx
      · exact absurd hx.symm hne
    cases he : env t with
    | bool c =>
      rw [he] at hw hv
      simp at hw
      generalize hx : a.tmps.getD t undef = x at hv
      cases hv
      rw [hget _ hx (by intro e; cases e)]
      rw [← hw]
      cases c <;> cases want <;> rfl
    | tup cs =>
      rw [he] at hw hv
      simp at hw
      generalize hx : a.tmps.getD t undef = x at hv
      cases hv
      have : ∀ b, ¬ a.tmps[t]? = some (.bool b) := fun b e => by
        have : a.tmps.getD t undef = .bool b := by
          have hl := (Array.getElem?_eq_some_iff.1 e).1
          simp only [Array.getD, dif_pos hl]
          exact (Array.getElem?_eq_some_iff.1 e).2
        rw [this] at hx
        cases hx
      subst hw
      split
      · rename_i b hb; exact absurd hb (this b)
      · cases want <;> rfl
    | _ => rw [he] at hw; simp at hw

end Go.Am

/- The abstract machine: rules for reckoning a run, by simp. -/
import Derived.Test.YtjceilhmgbdgiaaZAmStatic
import Derived.IntWalk
set_option linter.all false
namespace Go.Am

@[simp] theorem get_app0 {α : Type} (l r : List α) : (l ++ r)[l.length]? = r[0]? := by
  rw [List.getElem?_append_right (Nat.le_refl _), Nat.sub_self]

@[simp] theorem get_app {α : Type} (l r : List α) (k : Nat) : (l ++ r)[l.length + k]? = r[k]? := by
  rw [List.getElem?_append_right (by omega), Nat.add_sub_cancel_left]

@[simp] theorem set_app0 {α : Type} (l r : List α) (x : α) : (l ++ r).set l.length x = l ++ r.set 0 x := by
  rw [List.set_append_right _ _ (Nat.le_refl _), Nat.sub_self]

@[simp] theorem set_app {α : Type} (l r : List α) (k : Nat) (x : α) : (l ++ r).set (l.length + k) x = l ++ r.set k x := by
  rw [List.set_append_right _ _ (by omega), Nat.add_sub_cancel_left]

@[simp high] theorem get_cons0 {α : Type} (a : α) (l : List α) : (a :: l)[0]? = some a := (rfl)
@[simp high] theorem get_consS {α : Type} (a : α) (l : List α) (i : Nat) : (a :: l)[i + 1]? = l[i]? := (rfl)

/-! Slots. -/
@[simp] theorem put_none (env : Env) (v : AV) : put env none v = env := (rfl)
@[simp] theorem put_some (env : Env) (d t : Nat) (v : AV) : put env (some d) v t = if t = d then v else env t := (rfl)
@[simp] theorem env0_get (args : List AV) (t : Nat) : env0 args t = args[t]?.getD (.tup []) := by simp [env0, List.getD]
@[simp] theorem keepEnv_get (L : List Nat) (env : Env) (t : Nat) : keepEnv L env t = if t ∈ L then env t else .any := (rfl)
@[simp] theorem opdV_tmp (env : Env) (t : Nat) : opdV env (.tmp t) = env t := (rfl)
@[simp] theorem opdV_const (env : Env) (v : AV) : opdV env (.const v) = v := (rfl)

/-! Code. -/
def seqK (C : Calls1) (b : ACode) (K : Exit → Env → St → Prop) : Exit → Env → St → Prop
  | .normal, env, st => awC C b env st K
  | e, env, st => K e env st
def blockK (id : Nat) (K : Exit → Env → St → Prop) : Exit → Env → St → Prop
  | .exit i, env, st => if i = id then K .normal env st else K (.exit i) env st
  | e, env, st => K e env st
def regK (K : Exit → Env → St → Prop) : Env → St → Prop := fun env st => K .normal env st
def loopK (I : Nat → Env → St → Prop) (n : Nat) (st0 : St) (K : Exit → Env → St → Prop) : Exit → Env → St → Prop
  | .normal, env, st => ∃ n' L st'', n' < n ∧ Trunc st0 env st L st'' ∧ I n' (keepEnv L env) st''
  | e, env, st => K e env st

def scopeK (K : Exit → Env → St → Prop) : Exit → Env → St → Prop
  | .goto _, _, _ => False
  | e, env, st => K e env st

def scopeJK (C : Calls1) (l : Nat) (r : ACode) (K : Exit → Env → St → Prop) : Exit → Env → St → Prop
  | .goto l', env, st => l' = l ∧ awC C r env st (scopeK K)
  | e, env, st => K e env st

/-- A run of instructions, its calls as told. -/
abbrev Run := List AIns → Env → St → Prop
def runI (C : Calls1) (K : Env → St → Prop) : Run := fun is env st => awI C is env st K
def runT (O : Orc) (K : Env → St → Prop) : Run := fun is env st => awO O is env st K

def condK (v : AV) (C : Calls1) (a b : ACode) (env : Env) (st : St) (K : Exit → Env → St → Prop) : Prop :=
  match v with
  | .bool t => if t then awC C a env st K else awC C b env st K
  | .ub => awC C a env st K ∧ awC C b env st K
  | _ => False
@[simp] theorem condK_ub (C : Calls1) (a b : ACode) (env : Env) (st : St) (K : Exit → Env → St → Prop) : condK .ub C a b env st K = (awC C a env st K ∧ awC C b env st K) := (rfl)
@[simp] theorem condK_true (C : Calls1) (a b : ACode) (env : Env) (st : St) (K : Exit → Env → St → Prop) : condK (.bool true) C a b env st K = awC C a env st K := (rfl)
@[simp] theorem condK_false (C : Calls1) (a b : ACode) (env : Env) (st : St) (K : Exit → Env → St → Prop) : condK (.bool false) C a b env st K = awC C b env st K := (rfl)
theorem condK_split {t : Bool} {C : Calls1} {a b : ACode} {env : Env} {st : St} {K : Exit → Env → St → Prop} (h1 : t = true → awC C a env st K) (h2 : t = false → awC C b env st K) : condK (.bool t) C a b env st K := by
  cases t
  · exact h2 rfl
  · exact h1 rfl

section
variable (C : Calls1) (K : Exit → Env → St → Prop) (env : Env) (st : St)
@[simp] theorem awC_skip : awC C .skip env st K = K .normal env st := (rfl)
@[simp] theorem awC_exit (i : Nat) : awC C (.exit i) env st K = K (.exit i) env st := (rfl)
@[simp] theorem awC_ret : awC C .ret env st K = K .ret env st := (rfl)
@[simp] theorem awC_region (is : List AIns) : awC C (.region is none) env st K = runI C (regK K) is env st := (rfl)
@[simp] theorem awC_seq (a b : ACode) : awC C (.seq a b) env st K = awC C a env st (seqK C b K) := by
  simp only [awC]
  congr 1
  funext e env st
  cases e <;> rfl
@[simp] theorem awC_block (id : Nat) (b : ACode) : awC C (.block id b) env st K = awC C b env st (blockK id K) := by
  simp only [awC]
  congr 1
  funext e env st
  cases e <;> rfl
@[simp] theorem awC_scope (b : ACode) : awC C (.scope b) env st K = awC C b env st (scopeK K) := by
  simp only [awC]
  congr 1
  funext e env st
  cases e <;> rfl
@[simp] theorem scopeK_normal : scopeK K .normal env st = K .normal env st := (rfl)
@[simp] theorem scopeK_exit (i : Nat) : scopeK K (.exit i) env st = K (.exit i) env st := (rfl)
@[simp] theorem scopeK_ret : scopeK K .ret env st = K .ret env st := (rfl)
@[simp] theorem awC_label (l : Nat) : awC C (.label l) env st K = K .normal env st := (rfl)
@[simp] theorem awC_goto (l : Nat) : awC C (.goto l) env st K = K (.goto l) env st := (rfl)
@[simp] theorem awC_scopeJ (b : ACode) (l : Nat) (r : ACode) : awC C (.scopeJ b l r) env st K = awC C b env st (scopeJK C l r K) := by
  simp only [awC]
  congr 1
  funext e env st
  cases e with
  | goto l' =>
    show (_ ∧ awC C r env st _) = (_ ∧ awC C r env st (scopeK K))
    congr 2
    funext e env st
    cases e <;> rfl
  | _ => rfl
@[simp] theorem scopeJK_normal (l : Nat) (r : ACode) : scopeJK C l r K .normal env st = K .normal env st := (rfl)
@[simp] theorem scopeJK_exit (l : Nat) (r : ACode) (i : Nat) : scopeJK C l r K (.exit i) env st = K (.exit i) env st := (rfl)
@[simp] theorem scopeJK_ret (l : Nat) (r : ACode) : scopeJK C l r K .ret env st = K .ret env st := (rfl)
@[simp] theorem scopeJK_goto (l : Nat) (r : ACode) : scopeJK C l r K (.goto l) env st = awC C r env st (scopeK K) := by
  simp [scopeJK]
@[simp] theorem seqK_goto (b : ACode) (l : Nat) : seqK C b K (.goto l) env st = K (.goto l) env st := (rfl)
@[simp] theorem blockK_goto (id l : Nat) : blockK id K (.goto l) env st = K (.goto l) env st := (rfl)
theorem awC_cond (c : AOpd) (a b : ACode) {t : Bool} (h : opdV env c = .bool t) : awC C (.cond c a b) env st K = if t then awC C a env st K else awC C b env st K := by
  simp only [awC, h]
@[simp] theorem awC_condT (t : Nat) (a b : ACode) : awC C (.cond (.tmp t) a b) env st K = condK (env t) C a b env st K := by
  simp only [awC, opdV]
  rfl
@[simp] theorem awC_condC (v : AV) (a b : ACode) : awC C (.cond (.const v) a b) env st K = condK v C a b env st K := by
  simp only [awC, opdV]
  rfl
@[simp] theorem seqK_normal (b : ACode) : seqK C b K .normal env st = awC C b env st K := (rfl)
@[simp] theorem seqK_exit (b : ACode) (i : Nat) : seqK C b K (.exit i) env st = K (.exit i) env st := (rfl)
@[simp] theorem seqK_ret (b : ACode) : seqK C b K .ret env st = K .ret env st := (rfl)
@[simp] theorem blockK_normal (id : Nat) : blockK id K .normal env st = K .normal env st := (rfl)
@[simp] theorem blockK_exit (id i : Nat) : blockK id K (.exit i) env st = if i = id then K .normal env st else K (.exit i) env st := (rfl)
@[simp] theorem blockK_ret (id : Nat) : blockK id K .ret env st = K .ret env st := (rfl)
@[simp] theorem regK_apply : regK K env st = K .normal env st := (rfl)
@[simp] theorem loopK_normal (I : Nat → Env → St → Prop) (n : Nat) (st0 : St) : loopK I n st0 K .normal env st = ∃ n' L st'', n' < n ∧ Trunc st0 env st L st'' ∧ I n' (keepEnv L env) st'' := (rfl)
@[simp] theorem loopK_exit (I : Nat → Env → St → Prop) (n : Nat) (st0 : St) (i : Nat) : loopK I n st0 K (.exit i) env st = K (.exit i) env st := (rfl)
@[simp] theorem loopK_ret (I : Nat → Env → St → Prop) (n : Nat) (st0 : St) : loopK I n st0 K .ret env st = K .ret env st := (rfl)
end


theorem awC_loopG {C : Calls1} (hC : ∀ f vs st (K K' : AV → St → Prop), C f vs st K → (∀ v st', K v st' → K' v st') → C f vs st K') {b : ACode} {K : Exit → Env → St → Prop} {env : Env} {st : St} (I : Nat → Env → St → Prop) (n : Nat) (env1 : Env) (st1 : St) (hg : Ghost env st env1 st1) (h0 : I n env1 st1)
    (h : ∀ n env st, I n env st → awC C b env st (loopK I n st K)) : awC C (.loop b) env st K := by
  simp only [awC]
  refine ⟨I, n, env1, st1, hg, h0, fun n env st hI => ?_⟩
  refine awC_mono (fun f vs st K K' hc hk => hC f vs st K K' hc hk) b env st _ _ (h n env st hI) fun e v s hh => ?_
  cases e with
  | normal =>
    obtain ⟨n', L, st2, h1, h2, h3⟩ := hh
    exact ⟨n', _, st2, h1, .inl ⟨L, rfl, h2⟩, h3⟩
  | _ => exact hh

/-- A loop whose rounds go on as they are: nothing is forgotten. -/
def growK (I : Nat → Env → St → Prop) (n : Nat) (K : Exit → Env → St → Prop) : Exit → Env → St → Prop
  | .normal, env, st => ∃ n', n' < n ∧ I n' env st
  | e, env, st => K e env st
@[simp] theorem growK_normal (I : Nat → Env → St → Prop) (n : Nat) (K : Exit → Env → St → Prop) (env : Env) (st : St) : growK I n K .normal env st = ∃ n', n' < n ∧ I n' env st := (rfl)
@[simp] theorem growK_exit (I : Nat → Env → St → Prop) (n : Nat) (K : Exit → Env → St → Prop) (env : Env) (st : St) (i : Nat) : growK I n K (.exit i) env st = K (.exit i) env st := (rfl)
@[simp] theorem growK_ret (I : Nat → Env → St → Prop) (n : Nat) (K : Exit → Env → St → Prop) (env : Env) (st : St) : growK I n K .ret env st = K .ret env st := (rfl)
theorem awC_grow {C : Calls1} {b : ACode} {K : Exit → Env → St → Prop} {env : Env} {st : St} (hC : ∀ f vs st (K K' : AV → St → Prop), C f vs st K → (∀ v st', K v st' → K' v st') → C f vs st K') (I : Nat → Env → St → Prop) (n : Nat) (h0 : I n env st)
    (h : ∀ n env st, I n env st → awC C b env st (growK I n K)) : awC C (.loop b) env st K := by
  simp only [awC]
  refine ⟨I, n, env, st, .refl _ _, h0, fun n env st hI => ?_⟩
  refine awC_mono (fun f vs st K K' hc hk => hC f vs st K K' hc hk) b env st _ _ (h n env st hI) fun e v s hh => ?_
  cases e with
  | normal =>
    obtain ⟨n', h1, h3⟩ := hh
    exact ⟨n', v, s, h1, .inr (.refl _ _), h3⟩
  | _ => exact hh

/-- At most so many rounds, one behind the other. -/
def awU (C : Calls1) (b : ACode) (K : Exit → Env → St → Prop) : Nat → Env → St → Prop
  | 0, _, _ => False
  | n + 1, env, st => awC C b env st fun e env' st' => match e with
    | .normal => awU C b K n env' st'
    | e => K e env' st'
def unrK (C : Calls1) (b : ACode) (K : Exit → Env → St → Prop) (n : Nat) : Exit → Env → St → Prop
  | .normal, env, st => awU C b K n env st
  | e, env, st => K e env st
section
variable (C : Calls1) (b : ACode) (K : Exit → Env → St → Prop) (n : Nat) (env : Env) (st : St)
@[simp] theorem unrK_normal : unrK C b K n .normal env st = awU C b K n env st := (rfl)
@[simp] theorem unrK_exit (i : Nat) : unrK C b K n (.exit i) env st = K (.exit i) env st := (rfl)
@[simp] theorem unrK_ret : unrK C b K n .ret env st = K .ret env st := (rfl)
theorem awU_succ : awU C b K (n + 1) env st = awC C b env st (unrK C b K n) := by
  simp only [awU]
  congr 1
  funext e env st
  cases e <;> rfl
@[simp] theorem awU_pos (h : n ≠ 0) : awU C b K n env st = awC C b env st (unrK C b K (n - 1)) := by
  obtain ⟨m, rfl⟩ := Nat.exists_eq_succ_of_ne_zero h
  exact awU_succ C b K m env st
end
theorem awC_unroll {C : Calls1} (hC : ∀ f vs st (K K' : AV → St → Prop), C f vs st K → (∀ v st', K v st' → K' v st') → C f vs st K') {b : ACode} {K : Exit → Env → St → Prop} {env : Env} {st : St} (n : Nat) (h : awU C b K n env st) : awC C (.loop b) env st K := by
  simp only [awC]
  refine ⟨awU C b K, n, env, st, .refl _ _, h, fun n env st hI => ?_⟩
  cases n with
  | zero => exact hI.elim
  | succ n =>
    rw [awU_succ] at hI
    refine awC_mono (fun f vs st K K' hc hk => hC f vs st K K' hc hk) b env st _ _ hI fun e v s hh => ?_
    cases e with
    | normal => exact ⟨n, v, s, Nat.lt_succ_self n, .inr (.refl _ _), hh⟩
    | _ => exact hh

/-! Instructions. -/
def stepK (r : Option (AV × St)) (R : Run) (dst : Option Nat) (is : List AIns) (env : Env) : Prop :=
  match r with
  | some (v, st) => R is (put env dst v) st
  | none => False
section
variable (R : Run) (dst : Option Nat) (is : List AIns) (env : Env)
@[simp] theorem stepK_some (v : AV) (st : St) : stepK (some (v, st)) R dst is env = R is (put env dst v) st := (rfl)
@[simp] theorem stepK_none : stepK none R dst is env = False := (rfl)
@[simp] theorem stepK_ite (c : Prop) [Decidable c] (r : Option (AV × St)) : stepK (if c then r else none) R dst is env = (c ∧ stepK r R dst is env) := by
  by_cases h : c
  · simp [h]
  · simp [h, stepK]
end
@[simp] theorem map_ite' {α β : Type} (c : Prop) [Decidable c] (x : Option α) (f : α → β) : Option.map f (if c then x else none) = if c then Option.map f x else none := by
  split <;> rfl
@[simp] theorem bind_ite' {α β : Type} (c : Prop) [Decidable c] (x : Option α) (f : α → Option β) : Option.bind (if c then x else none) f = if c then Option.bind x f else none := by
  split <;> rfl

def callvK (C : Calls1) (args : List AV) (st : St) (K : AV → St → Prop) : Prop :=
  match args with
  | .fn (.func f) first caps :: xs => C f (first ++ xs ++ caps) st K
  | _ => False
@[simp] theorem callvK_fn (C : Calls1) (f : Nat) (first caps xs : List AV) (st : St) (K : AV → St → Prop) : callvK C (.fn (.func f) first caps :: xs) st K = C f (first ++ xs ++ caps) st K := (rfl)

def contK (R : Run) (dst : Option Nat) (is : List AIns) (env : Env) (v : AV) (st : St) : Prop := R is (put env dst v) st
@[simp] theorem contK_apply (R : Run) (dst : Option Nat) (is : List AIns) (env : Env) (v : AV) (st : St) : contK R dst is env v st = R is (put env dst v) st := (rfl)
/-- A call that the table knows. -/
def tabK (p : Bool) (r : Option AV) (st : St) (K : AV → St → Prop) : Prop :=
  match p, r with
  | false, some X => K X st
  | _, _ => False
@[simp] theorem tabK_some (X : AV) (st : St) (K : AV → St → Prop) : tabK false (some X) st K = K X st := (rfl)
def tabvK (O : Orc) (args : List AV) (st : St) (K : AV → St → Prop) : Prop :=
  match args with
  | .fn (.func f) first caps :: xs => tabK ((first ++ xs ++ caps).any isMsl) (O f (normL (first ++ xs ++ caps))) st K
  | _ => False
@[simp] theorem tabvK_fn (O : Orc) (f : Nat) (first caps xs : List AV) (st : St) (K : AV → St → Prop) : tabvK O (.fn (.func f) first caps :: xs) st K = tabK ((first ++ xs ++ caps).any isMsl) (O f (normL (first ++ xs ++ caps))) st K := (rfl)

def guardK (r : Option Bool) (R : Run) (i : AIns) (is : List AIns) (env : Env) (st : St) : Prop :=
  match r with
  | some true => R (i :: is) env st
  | some false => R is (put env i.dst (.tup [])) st
  | none => False

section
variable (C : Calls1) (K : Env → St → Prop) (env : Env) (st : St) (args : List AOpd) (dst : Option Nat) (is : List AIns)
@[simp] theorem guardK_true (R : Run) (i : AIns) : guardK (some true) R i is env st = R (i :: is) env st := (rfl)
@[simp] theorem guardK_false (R : Run) (k : Kind) (g : Option (Nat × Bool)) : guardK (some false) R ⟨k, args, dst, g⟩ is env st = R is (put env dst (.tup [])) st := (rfl)
@[simp] theorem awI_nil : runI C K [] env st = K env st := (rfl)
@[simp] theorem awI_prim (op : AOp) : runI C K (⟨.prim op, args, dst, none⟩ :: is) env st = stepK (evA op (args.map (opdV env)) st) (runI C K) dst is env := by
  simp only [runI, awI, wantedA]
  cases evA op (args.map (opdV env)) st <;> rfl
@[simp] theorem awI_call (f : Nat) : runI C K (⟨.call f, args, dst, none⟩ :: is) env st = C f (args.map (opdV env)) st (contK (runI C K) dst is env) := (rfl)
@[simp] theorem awI_callV : runI C K (⟨.callV, args, dst, none⟩ :: is) env st = callvK C (args.map (opdV env)) st (contK (runI C K) dst is env) := by
  simp only [runI, awI, wantedA]
  unfold callvK
  split
  · rename_i h
    simp only [h]
    rfl
  · rename_i h
    split
    · rename_i h2; exact absurd h2 (h _ _ _ _)
    · rfl
@[simp] theorem awI_guard (k : Kind) (t : Nat) (b : Bool) : runI C K (⟨k, args, dst, some (t, b)⟩ :: is) env st = guardK (wantedA (some (t, b)) env) (runI C K) ⟨k, args, dst, none⟩ is env st := by
  cases hw : wantedA (some (t, b)) env with
  | none => simp only [runI, awI, hw]; rfl
  | some c =>
    cases c
    · simp only [runI, awI, hw]; rfl
    · simp only [runI, awI, hw]; rfl
variable (O : Orc)
@[simp] theorem awO_nil : runT O K [] env st = K env st := (rfl)
@[simp] theorem awO_prim (op : AOp) : runT O K (⟨.prim op, args, dst, none⟩ :: is) env st = stepK (evA op (args.map (opdV env)) st) (runT O K) dst is env := by
  simp only [runT, awO, stepO, wantedA, evK]
  cases evA op (args.map (opdV env)) st <;> rfl
@[simp] theorem awO_call (f : Nat) : runT O K (⟨.call f, args, dst, none⟩ :: is) env st = tabK ((args.map (opdV env)).any isMsl) (O f (normL (args.map (opdV env)))) st (contK (runT O K) dst is env) := by
  simp only [runT, awO, stepO, wantedA, evK]
  cases (args.map (opdV env)).any isMsl
  · cases O f (normL (args.map (opdV env))) <;> rfl
  · rfl
@[simp] theorem awO_callV : runT O K (⟨.callV, args, dst, none⟩ :: is) env st = tabvK O (args.map (opdV env)) st (contK (runT O K) dst is env) := by
  simp only [runT, awO, stepO, wantedA, evK]
  generalize args.map (opdV env) = as
  rcases as with _ | ⟨a, xs⟩
  · rfl
  · cases a with
    | fn f first caps =>
      cases f with
      | func f =>
        simp only [tabvK]
        cases (first ++ xs ++ caps).any isMsl
        · cases O f (normL (first ++ xs ++ caps)) <;> rfl
        · rfl
      | _ => rfl
    | _ => rfl
@[simp] theorem awO_guard (k : Kind) (t : Nat) (b : Bool) : runT O K (⟨k, args, dst, some (t, b)⟩ :: is) env st = guardK (wantedA (some (t, b)) env) (runT O K) ⟨k, args, dst, none⟩ is env st := by
  cases hw : wantedA (some (t, b)) env with
  | none => simp only [runT, awO, stepO, hw]; rfl
  | some c =>
    cases c
    · simp only [runT, awO, stepO, hw]; rfl
    · simp only [runT, awO, stepO, hw]; rfl
end
attribute [simp] isMsl
theorem region_static {P : Program} {O : Orc} {is : List AIns} {deps : List (List Nat)} {env : Env} {st : St} {K : Exit → Env → St → Prop} (hlen : is.length = deps.length) (hf : free is deps = true) (h : runT O (regK K) is env st) : awC (orc P O) (.region is (some deps)) env st K :=
  awD_static hlen hf h

section
variable {t : Bool} {R : Run} {k : Kind} {args : List AOpd} {dst : Option Nat} {g : Option (Nat × Bool)} {is : List AIns} {env : Env} {st : St}
theorem guardK_split (h1 : t = true → R (⟨k, args, dst, g⟩ :: is) env st) (h2 : t = false → R is (put env dst (.tup [])) st) : guardK (some t) R ⟨k, args, dst, g⟩ is env st := by
  cases t
  · exact h2 rfl
  · exact h1 rfl
variable {p : Prop} [Decidable p]
theorem guardK_dec (h1 : p → R (⟨k, args, dst, g⟩ :: is) env st) (h2 : ¬ p → R is (put env dst (.tup [])) st) : guardK (some (decide p)) R ⟨k, args, dst, g⟩ is env st :=
  guardK_split (fun h => h1 (of_decide_eq_true h)) (fun h => h2 (of_decide_eq_false h))
theorem guardK_ndec (h2 : p → R is (put env dst (.tup [])) st) (h1 : ¬ p → R (⟨k, args, dst, g⟩ :: is) env st) : guardK (some (!decide p)) R ⟨k, args, dst, g⟩ is env st :=
  guardK_split (fun h => h1 (by simpa using h)) (fun h => h2 (by simpa using h))
theorem guardK_not (h2 : t = true → R is (put env dst (.tup [])) st) (h1 : t = false → R (⟨k, args, dst, g⟩ :: is) env st) : guardK (some (!t)) R ⟨k, args, dst, g⟩ is env st :=
  guardK_split (fun h => h1 (by simpa using h)) (fun h => h2 (by simpa using h))
variable {α : Type} [BEq α] [LawfulBEq α] {x y : α}
theorem guardK_beq (h1 : x = y → R (⟨k, args, dst, g⟩ :: is) env st) (h2 : ¬ x = y → R is (put env dst (.tup [])) st) : guardK (some (x == y)) R ⟨k, args, dst, g⟩ is env st :=
  guardK_split (fun h => h1 (by simpa using h)) (fun h => h2 (by simpa using h))
theorem guardK_nbeq (h2 : x = y → R is (put env dst (.tup [])) st) (h1 : ¬ x = y → R (⟨k, args, dst, g⟩ :: is) env st) : guardK (some (!(x == y))) R ⟨k, args, dst, g⟩ is env st :=
  guardK_split (fun h => h1 (by simpa using h)) (fun h => h2 (by simpa using h))
theorem guardK_bne (h2 : x = y → R is (put env dst (.tup [])) st) (h1 : ¬ x = y → R (⟨k, args, dst, g⟩ :: is) env st) : guardK (some (x != y)) R ⟨k, args, dst, g⟩ is env st :=
  guardK_split (fun h => h1 (by simpa using h)) (fun h => h2 (by simpa using h))
end
section
variable {p : Prop} [Decidable p] {t : Bool} {C : Calls1} {a b : ACode} {env : Env} {st : St} {K : Exit → Env → St → Prop}
theorem condK_dec (h1 : p → awC C a env st K) (h2 : ¬ p → awC C b env st K) : condK (.bool (decide p)) C a b env st K := condK_split (fun h => h1 (of_decide_eq_true h)) (fun h => h2 (of_decide_eq_false h))
theorem condK_ndec (h2 : p → awC C b env st K) (h1 : ¬ p → awC C a env st K) : condK (.bool (!decide p)) C a b env st K := condK_split (fun h => h1 (by simpa using h)) (fun h => h2 (by simpa using h))
theorem condK_not (h2 : t = true → awC C b env st K) (h1 : t = false → awC C a env st K) : condK (.bool (!t)) C a b env st K := condK_split (fun h => h1 (by simpa using h)) (fun h => h2 (by simpa using h))
variable {α : Type} [BEq α] [LawfulBEq α] {x y : α}
theorem condK_beq (h1 : x = y → awC C a env st K) (h2 : ¬ x = y → awC C b env st K) : condK (.bool (x == y)) C a b env st K := condK_split (fun h => h1 (by simpa using h)) (fun h => h2 (by simpa using h))
theorem condK_nbeq (h2 : x = y → awC C b env st K) (h1 : ¬ x = y → awC C a env st K) : condK (.bool (!(x == y))) C a b env st K := condK_split (fun h => h1 (by simpa using h)) (fun h => h2 (by simpa using h))
theorem condK_bne (h2 : x = y → awC C b env st K) (h1 : ¬ x = y → awC C a env st K) : condK (.bool (x != y)) C a b env st K := condK_split (fun h => h1 (by simpa using h)) (fun h => h2 (by simpa using h))
end

def wantK (v : AV) (b : Bool) : Option Bool :=
  match v with
  | .bool c => some (c == b)
  | .tup _ => some false
  | _ => none
@[simp] theorem wantK_bool (c b : Bool) : wantK (.bool c) b = some (c == b) := (rfl)
@[simp] theorem wantK_tup (l : List AV) (b : Bool) : wantK (.tup l) b = some false := (rfl)
@[simp] theorem wantedA_some (t : Nat) (b : Bool) (env : Env) : wantedA (some (t, b)) env = wantK (env t) b := by
  simp only [wantedA]
  cases env t <;> rfl


/-! Operations. -/

/-- So many zeros. -/
def rowOf (n : Nat) (z : List AV) : List AV := (List.replicate n z).flatten
def z8 (n : Nat) : List UInt8 := List.replicate n 0
@[simp] theorem z8_length (n : Nat) : (z8 n).length = n := by simp [z8]
@[simp] theorem rowOf_length (n : Nat) (z : List AV) : (rowOf n z).length = n * z.length := by simp [rowOf]

def loadK (sz : Option Nat) (off : Nat) (b : Option Blk) : Option AV :=
  match b with
  | some (.cells _ vs) => partA vs off sz
  | _ => none
@[simp] theorem loadK_some (sz : Option Nat) (off : Nat) (fz : Bool) (vs : List AV) : loadK sz off (some (.cells fz vs)) = partA vs off sz := (rfl)

def storeK (sz : Option Nat) (l off : Nat) (v : AV) (st : St) (b : Option Blk) : Option (AV × St) :=
  match b with
  | some (.cells false vs) => if shaped sz v && off + v.cells.length ≤ vs.length then some (.tup [], { st with heap := st.heap.set l (.cells false (setRange vs off v.cells)) }) else none
  | _ => none
@[simp] theorem storeK_some (sz : Option Nat) (l off : Nat) (v : AV) (st : St) (vs : List AV) : storeK sz l off v st (some (.cells false vs)) = if shaped sz v && off + v.cells.length ≤ vs.length then some (.tup [], { st with heap := st.heap.set l (.cells false (setRange vs off v.cells)) }) else none := (rfl)

section
variable (st : St)
@[simp] theorem evA_id (x : AV) : evA .id [x] st = some (x, st) := (rfl)
@[simp] theorem evA_nilc (x : AV) : evA .nilc [x] st = (nilcA x).map fun v => (v, st) := (rfl)
@[simp] theorem evA_idStr (l : List UInt8) : evA .idStr [.str l] st = some (.str l, st) := (rfl)
@[simp] theorem evA_pick (c : Bool) (a b : AV) : evA .pick [.bool c, a, b] st = some (if c then a else b, st) := (rfl)
@[simp] theorem evA_pickT (c : Bool) (b : Bool) : evA .pick [.bool c, .bool true, .bool b] st = some (.bool (c || b), st) := by cases c <;> rfl
@[simp] theorem evA_pickF (c : Bool) (b : Bool) : evA .pick [.bool c, .bool b, .bool false] st = some (.bool (c && b), st) := by cases c <;> rfl
@[simp] theorem evA_bin (op : BinOp) (k : EqK) (x y : AV) : evA (.bin op k) [x, y] st = (binA op k x y).map fun v => (v, st) := (rfl)
@[simp] theorem evA_un (op : UnOp) (x : AV) : evA (.un op) [x] st = (unA op x).map fun v => (v, st) := (rfl)
@[simp] theorem evA_build (z : List AV) (ps : List (Nat × Nat)) (vs : List AV) : evA (.build z ps) vs st = ((fillA z ps vs).map .agg).map fun v => (v, st) := (rfl)
@[simp] theorem evA_buildSl (sz : Option Nat) (vs : List AV) : evA (.buildSl sz) vs st = (if vs.all (shaped sz) then some (.sl .clip vs) else none).map fun v => (v, st) := (rfl)
@[simp] theorem evA_extract (i : Nat) (vs : List AV) : evA (.extract i) [.tup vs] st = (vs[i]?).map fun v => (v, st) := (rfl)
@[simp] theorem evA_field (off : Nat) (sz : Option Nat) (cs : List AV) : evA (.field off sz) [.agg cs] st = (partA cs off sz).map fun v => (v, st) := (rfl)
@[simp] theorem evA_fieldAddr (off : Nat) (sz : Option Nat) (l o : Nat) : evA (.fieldAddr off sz) [.ptr l o] st = some (.ptr l (o + off), st) := (rfl)
@[simp] theorem evA_fieldAddrR (off : Nat) (sz : Option Nat) (cs : List AV) : evA (.fieldAddr off sz) [.rptr (.agg cs)] st = ((partA cs off sz).map .rptr).map fun v => (v, st) := (rfl)
@[simp] theorem evA_idxSl (sz : Option Nat) (t : Tok) (es : List AV) (k : IntKind) (i : Int) : evA (.idxSl sz) [.sl t es, .int k i] st = (if 0 ≤ i then (es[i.toNat]?).bind fun e => if e.cells.length == sz.getD 1 then some (AV.rptr e) else none else none).map fun v => (v, st) := (rfl)
@[simp] theorem evA_idxM (sz sz' : Option Nat) (l off len : Nat) (k : IntKind) (i : Int) : evA (.idxSl sz) [.msl l off len sz', .int k i] st = (if sz = sz' ∧ 0 ≤ i ∧ i < len then some (AV.ptr l (off + i.toNat * sz.getD 1)) else none).map fun v => (v, st) := (rfl)
@[simp] theorem evA_idxArr (sz : Option Nat) (l off len : Nat) (k : IntKind) (i : Int) : evA (.idxArr len sz) [.ptr l off, .int k i] st = (if 0 ≤ i ∧ i < len then some (AV.ptr l (off + i.toNat * sz.getD 1)) else none).map fun v => (v, st) := (rfl)
@[simp] theorem evA_idxArrR (sz : Option Nat) (cs : List AV) (len : Nat) (k : IntKind) (i : Int) : evA (.idxArr len sz) [.rptr (.agg cs), .int k i] st = (if 0 ≤ i ∧ i < len then (partA cs (i.toNat * sz.getD 1) sz).map AV.rptr else none).map fun v => (v, st) := (rfl)
@[simp] theorem evA_idxArrV (sz : Option Nat) (cs : List AV) (len : Nat) (k : IntKind) (i : Int) : evA (.idxArrV len sz) [.agg cs, .int k i] st = (if 0 ≤ i ∧ i < len then partA cs (i.toNat * sz.getD 1) sz else none).map fun v => (v, st) := (rfl)
@[simp] theorem evA_idxStr (l : List UInt8) (k : IntKind) (i : Int) : evA .idxStr [.str l, .int k i] st = (if 0 ≤ i then (l[i.toNat]?).map fun b => AV.int .u8 b.toNat else none).map fun v => (v, st) := (rfl)
@[simp] theorem evA_lenSl (t : Tok) (es : List AV) : evA .len [.sl t es] st = some (.int .i64 es.length, st) := (rfl)
@[simp] theorem evA_lenM (l o n : Nat) (sz : Option Nat) : evA .len [.msl l o n sz] st = some (.int .i64 n, st) := (rfl)
@[simp] theorem evA_lenStr (l : List UInt8) : evA .lenStr [.str l] st = some (.int .i64 l.length, st) := (rfl)
@[simp] theorem evA_conv (k k' : IntKind) (n : Int) : evA (.conv k) [.int k' n] st = some (.int k (k.wrap n), st) := (rfl)
@[simp] theorem evA_mkfn (f : Fn) (n : Nat) (vs : List AV) : evA (.mkfn f n) vs st = some (.fn f (vs.take n) (vs.drop n), st) := by cases vs <;> rfl
@[simp] theorem evA_bytesOf (l : List UInt8) : evA .bytesOf [.str l] st = (if l.length ≤ limit then some (AV.sl .any (ofBytes l)) else none).map fun v => (v, st) := (rfl)
@[simp] theorem evA_strOf (t : Tok) (es : List AV) : evA .strOf [.sl t es] st = ((toBytes es).map .str).map fun v => (v, st) := (rfl)
/-! Maps. -/
def mapB (b : Option Blk) : Option (List (AV × AV × Nat) × Nat) :=
  match b with
  | some (.map es c) => some (es, c)
  | _ => none
@[simp] theorem mapB_some (es : List (AV × AV × Nat)) (c : Nat) : mapB (some (.map es c)) = some (es, c) := (rfl)
@[simp] theorem evA_mkmap : evA .mkmap [] st = some (.map (some st.heap.length), ⟨st.heap ++ [.map [] 0], st.toks⟩) := (rfl)
@[simp] theorem evA_mkmap1 (k : IntKind) (n : Int) : evA .mkmap [.int k n] st = some (.map (some st.heap.length), ⟨st.heap ++ [.map [] 0], st.toks⟩) := (rfl)
@[simp] theorem evA_mapGet0 (kk : KeyK) (z : AV) (ok : Bool) (k : AV) : evA (.mapGet kk z ok) [.map none, k] st = (getA kk z ok [] k).map fun v => (v, st) := (rfl)
@[simp] theorem evA_mapGet (kk : KeyK) (z : AV) (ok : Bool) (l : Nat) (k : AV) : evA (.mapGet kk z ok) [.map (some l), k] st = ((mapB st.heap[l]?).bind fun m => getA kk z ok m.1 k).map fun v => (v, st) := (rfl)
@[simp] theorem evA_mapLen0 : evA .mapLen [.map none] st = some (.int .i64 0, st) := (rfl)
@[simp] theorem evA_mapLen (l : Nat) : evA .mapLen [.map (some l)] st = ((mapB st.heap[l]?).map fun m => .int .i64 m.1.length).map fun v => (v, st) := (rfl)
@[simp] theorem evA_mapSet (kk : KeyK) (l : Nat) (k v : AV) : evA (.mapSet kk) [.map (some l), k, v] st = (mapB st.heap[l]?).bind fun m => (setA kk m k v).map fun m' => (.tup [], ⟨st.heap.set l (.map m'.1 m'.2), st.toks⟩) := (rfl)
@[simp] theorem evA_mapEnt (kk : KeyK) (z : AV) (l : Nat) (k : AV) : evA (.mapEnt kk z) [.map (some l), k] st = (mapB st.heap[l]?).bind fun m => (entA kk z m k).map fun r => (r.1, ⟨st.heap.set l (.map r.2.1 r.2.2), st.toks⟩) := (rfl)
@[simp] theorem evA_entSet (l : Nat) (b : Int) (v : AV) : evA .entSet [.map (some l), .int .i64 b, v] st = (mapB st.heap[l]?).bind fun m => (bornA b m.1).bind fun i => (m.1[i]?).map fun e => (.tup [], ⟨st.heap.set l (.map (m.1.set i (e.1, v, e.2.2)) m.2), st.toks⟩) := (rfl)
@[simp] theorem evA_mapDel (kk : KeyK) (l : Nat) (k : AV) : evA (.mapDel kk) [.map (some l), k] st = (mapB st.heap[l]?).bind fun m => (delA kk m.1 k).map fun es => (.tup [], ⟨st.heap.set l (.map es m.2), st.toks⟩) := (rfl)
@[simp] theorem evA_mapClr (l : Nat) : evA .mapClr [.map (some l)] st = (mapB st.heap[l]?).map fun m => (.tup [], ⟨st.heap.set l (.map [] m.2), st.toks⟩) := (rfl)
@[simp] theorem evA_mapClr0 : evA .mapClr [.map none] st = some (.tup [], st) := (rfl)
@[simp] theorem mapRes_t (b : Bool) (v : AV) : mapRes true b v = .tup [v, .bool b] := (rfl)
@[simp] theorem mapRes_f (b : Bool) (v : AV) : mapRes false b v = v := (rfl)
@[simp] theorem evA_isNil0 (neg : Bool) (t : Tok) : evA (.isNil 0 neg) [.sl t []] st = some (.ub, st) := by
  cases neg <;> rfl
@[simp] theorem evA_isNilS (neg : Bool) (t : Tok) (e : AV) (es : List AV) : evA (.isNil 0 neg) [.sl t (e :: es)] st = some (.bool neg, st) := by
  cases neg <;> rfl
@[simp] theorem evA_isNilMs (neg : Bool) (l o n : Nat) (sz : Option Nat) : evA (.isNil 0 neg) [.msl l o n sz] st = some (.bool neg, st) := by
  cases neg <;> rfl
@[simp] theorem evA_isNilM0 (neg : Bool) : evA (.isNil 1 neg) [.map none] st = some (.bool !neg, st) := by
  cases neg <;> rfl
@[simp] theorem evA_isNilM (neg : Bool) (l : Nat) : evA (.isNil 1 neg) [.map (some l)] st = some (.bool neg, st) := by
  cases neg <;> rfl
@[simp] theorem evA_isNilF0 (neg : Bool) : evA (.isNil 2 neg) [.nilfn] st = some (.bool !neg, st) := by
  cases neg <;> rfl
@[simp] theorem evA_isNilF (neg : Bool) (f : Fn) (a b : List AV) : evA (.isNil 2 neg) [.fn f a b] st = some (.bool neg, st) := by
  cases neg <;> rfl
@[simp] theorem evA_min (k k' : IntKind) (a b : Int) : evA (.minmax false) [.int k a, .int k' b] st = (if k = k' then some (AV.int k (min a b)) else none).map fun v => (v, st) := by
  simp only [evA, AOp.cls, evP, Bool.false_eq_true, if_false]
  rw [show (if b < a then b else a) = min a b by simp only [Int.min_def]; split <;> split <;> omega]
@[simp] theorem evA_max (k k' : IntKind) (a b : Int) : evA (.minmax true) [.int k a, .int k' b] st = (if k = k' then some (AV.int k (max a b)) else none).map fun v => (v, st) := by
  simp only [evA, AOp.cls, evP, if_true]
  rw [show (if a < b then b else a) = max a b by simp only [Int.max_def]; split <;> split <;> omega]
@[simp] theorem evA_slcStr (lo hi : Bool) (l : List UInt8) (bs : List AV) : evA (.slcStr lo hi) (.str l :: bs) st = ((boundsOf lo hi false l.length bs).map fun (a, b, _) => AV.str ((l.drop a).take (b - a))).map fun v => (v, st) := (rfl)
@[simp] theorem evA_slcSl (sz : Option Nat) (lo hi mx : Bool) (t : Tok) (es : List AV) (bs : List AV) : evA (.slcSl sz lo hi mx) (.sl t es :: bs) st = ((boundsOf lo hi mx es.length bs).bind fun (a, b, m) =>
      if allSz (sz.getD 1) es then some (AV.sl (slTok t b es.length m) ((es.drop a).take (b - a))) else none).map fun v => (v, st) := (rfl)
@[simp] theorem evA_slcM (sz sz' : Option Nat) (lo hi mx : Bool) (l off len : Nat) (bs : List AV) : evA (.slcSl sz lo hi mx) (.msl l off len sz' :: bs) st = ((boundsOf lo hi mx len bs).bind fun (a, b, m) => if sz = sz' ∧ m = none ∧ (a = 0 ∨ a < len) then some (AV.msl l (off + a * sz.getD 1) (b - a) sz) else none).map fun v => (v, st) := (rfl)
@[simp] theorem evA_load (sz : Option Nat) (l off : Nat) : evA (.load sz) [.ptr l off] st = (loadK sz off st.heap[l]?).map fun v => (v, st) := by
  simp only [evA, AOp.cls, evR]
  cases st.heap[l]? with
  | none => rfl
  | some b => cases b <;> rfl
@[simp] theorem evA_loadN (v : AV) : evA (.load none) [.rptr v] st = (if isAggV v then none else some (v, st)) := by
  cases v <;> rfl
@[simp] theorem evA_loadS (k : Nat) (cs : List AV) : evA (.load (some k)) [.rptr (.agg cs)] st = (if cs.length = k then some (AV.agg cs) else none).map fun v => (v, st) := (rfl)
@[simp] theorem evA_store (sz : Option Nat) (l off : Nat) (v : AV) : evA (.store sz) [.ptr l off, v] st = storeK sz l off v st st.heap[l]? := by
  simp only [evA, AOp.cls, evW]
  cases st.heap[l]? with
  | none => rfl
  | some b =>
    cases b with
    | cells fz vs => cases fz <;> rfl
    | _ => rfl
@[simp] theorem evA_alloc (z : List AV) : evA (.alloc z) [] st = some (.ptr st.heap.length 0, ⟨st.heap ++ [.cells false z], st.toks⟩) := (rfl)
@[simp] theorem evA_box (sz : Option Nat) (v : AV) : evA (.box sz) [v] st = if shaped sz v then some (.ptr st.heap.length 0, ⟨st.heap ++ [.cells false v.cells], st.toks⟩) else none := (rfl)
@[simp] theorem evA_mkslice (sz : Option Nat) (z : List AV) (k k' : IntKind) (n c : Int) : evA (.mkslice sz z) [.int k n, .int k' c] st = if 0 ≤ n ∧ n ≤ c ∧ c ≤ 2147483648 then
      some (.msl st.heap.length 0 n.toNat sz, ⟨st.heap ++ [.cells false (rowOf n.toNat z)], st.toks⟩) else none := (rfl)
end

def appK (n k len : Nat) (es : List AV) (sz : Nat) (st : St) (t : Option (Nat × Nat)) : Option (AV × St) :=
  match t with
  | some (n', s) => if n' = n ∧ s = sz then some (.sl (.own k) es, { st with toks := st.toks.set k (len, s) }) else none
  | none => none
@[simp] theorem appK_some (n k len n' s : Nat) (es : List AV) (sz : Nat) (st : St) : appK n k len es sz st (some (n', s)) = if n' = n ∧ s = sz then some (.sl (.own k) es, { st with toks := st.toks.set k (len, s) }) else none := (rfl)

theorem evA_appClip (st : St) (sz : Option Nat) (es new : List AV) (src : AV) (h : srcEs sz st src = some new) : evA (.append sz) [.sl .clip es, src] st = if allSz (sz.getD 1) es ∧ es.length + new.length ≤ limit then some (.sl (.own st.toks.length) (es ++ normL new), ⟨st.heap, st.toks ++ [(es.length + new.length, sz.getD 1)]⟩) else none := by
  simp only [evA, AOp.cls, evT, h, Bool.and_eq_true, decide_eq_true_eq]
theorem evA_appOwn (st : St) (sz : Option Nat) (k : Nat) (es new : List AV) (src : AV) (h : srcEs sz st src = some new) : evA (.append sz) [.sl (.own k) es, src] st = if allSz (sz.getD 1) es ∧ es.length + new.length ≤ limit then appK es.length k (es.length + new.length) (es ++ normL new) (sz.getD 1) st st.toks[k]? else none := by
  simp only [evA, AOp.cls, evT, h, Bool.and_eq_true, decide_eq_true_eq]
  cases st.toks[k]? with
  | none => rfl
  | some p => rfl

@[simp] theorem partA_none (cs : List AV) (off : Nat) : partA cs off none = cs[off]? := (rfl)
@[simp] theorem partA_some (cs : List AV) (off k : Nat) : partA cs off (some k) = if off + k ≤ cs.length then some (.agg ((cs.drop off).take k)) else none := (rfl)
@[simp] theorem shaped_agg (k : Nat) (cs : List AV) : shaped (some k) (.agg cs) = (cs.length == k) := (rfl)
@[simp] theorem shaped_bool (b : Bool) : shaped none (.bool b) = true := (rfl)
@[simp] theorem shaped_int (k : IntKind) (n : Int) : shaped none (.int k n) = true := (rfl)
@[simp] theorem shaped_str (l : List UInt8) : shaped none (.str l) = true := (rfl)
@[simp] theorem shaped_nilp : shaped none .nilp = true := (rfl)
@[simp] theorem shaped_ptr (l o : Nat) : shaped none (.ptr l o) = true := (rfl)
@[simp] theorem shaped_rptr (v : AV) : shaped none (.rptr v) = true := (rfl)
@[simp] theorem shaped_sl (t : Tok) (es : List AV) : shaped none (.sl t es) = true := (rfl)
@[simp] theorem shaped_msl (l o n : Nat) (sz : Option Nat) : shaped none (.msl l o n sz) = true := (rfl)
@[simp] theorem shaped_fn (f : Fn) (a b : List AV) : shaped none (.fn f a b) = true := (rfl)
@[simp] theorem shaped_ub : shaped none .ub = true := (rfl)
@[simp] theorem shaped_nilfn : shaped none .nilfn = true := (rfl)
@[simp] theorem isAggV_agg (cs : List AV) : isAggV (.agg cs) = true := (rfl)
@[simp] theorem isAggV_bool (b : Bool) : isAggV (.bool b) = false := (rfl)
@[simp] theorem isAggV_int (k : IntKind) (n : Int) : isAggV (.int k n) = false := (rfl)
@[simp] theorem isAggV_str (l : List UInt8) : isAggV (.str l) = false := (rfl)
@[simp] theorem isAggV_sl (t : Tok) (es : List AV) : isAggV (.sl t es) = false := (rfl)
@[simp] theorem isAggV_nilp : isAggV .nilp = false := (rfl)
@[simp] theorem isAggV_ptr (l o : Nat) : isAggV (.ptr l o) = false := (rfl)
@[simp] theorem isAggV_rptr (v : AV) : isAggV (.rptr v) = false := (rfl)
@[simp] theorem isAggV_msl (l o n : Nat) (sz : Option Nat) : isAggV (.msl l o n sz) = false := (rfl)
@[simp] theorem isAggV_fn (f : Fn) (a b : List AV) : isAggV (.fn f a b) = false := (rfl)
@[simp] theorem isAggV_ub : isAggV .ub = false := (rfl)
@[simp] theorem isAggV_nilfn : isAggV .nilfn = false := (rfl)
@[simp] theorem isAggV_any : isAggV .any = false := (rfl)
@[simp] theorem isAggV_tup (cs : List AV) : isAggV (.tup cs) = false := (rfl)
@[simp] theorem cells_agg (cs : List AV) : (AV.agg cs).cells = cs := (rfl)
@[simp] theorem cells_bool (b : Bool) : (AV.bool b).cells = [.bool b] := (rfl)
@[simp] theorem cells_int (k : IntKind) (n : Int) : (AV.int k n).cells = [.int k n] := (rfl)
@[simp] theorem cells_str (l : List UInt8) : (AV.str l).cells = [.str l] := (rfl)
@[simp] theorem cells_sl (t : Tok) (es : List AV) : (AV.sl t es).cells = [.sl t es] := (rfl)
@[simp] theorem cells_nilp : (AV.nilp).cells = [.nilp] := (rfl)
@[simp] theorem cells_ptr (l o : Nat) : (AV.ptr l o).cells = [.ptr l o] := (rfl)
@[simp] theorem cells_rptr (v : AV) : (AV.rptr v).cells = [.rptr v] := (rfl)
@[simp] theorem cells_msl (l o n : Nat) (sz : Option Nat) : (AV.msl l o n sz).cells = [.msl l o n sz] := (rfl)
@[simp] theorem cells_fn (f : Fn) (a b : List AV) : (AV.fn f a b).cells = [.fn f a b] := (rfl)
@[simp] theorem cells_ub : (AV.ub).cells = [.ub] := (rfl)
@[simp] theorem cells_nilfn : (AV.nilfn).cells = [.nilfn] := (rfl)
@[simp] theorem cells_any : (AV.any).cells = [.any] := (rfl)
@[simp] theorem cells_tup (cs : List AV) : (AV.tup cs).cells = [.tup cs] := (rfl)
attribute [simp] setRange
@[simp] theorem isAny_any  : isAny (.any) = true := (rfl)
@[simp] theorem isTup_any  : isTup (.any) = false := (rfl)
@[simp] theorem isAny_bool (b : Bool) : isAny (.bool b) = false := (rfl)
@[simp] theorem isTup_bool (b : Bool) : isTup (.bool b) = false := (rfl)
@[simp] theorem isAny_int (k : IntKind) (n : Int) : isAny (.int k n) = false := (rfl)
@[simp] theorem isTup_int (k : IntKind) (n : Int) : isTup (.int k n) = false := (rfl)
@[simp] theorem isAny_str (l8 : List UInt8) : isAny (.str l8) = false := (rfl)
@[simp] theorem isTup_str (l8 : List UInt8) : isTup (.str l8) = false := (rfl)
@[simp] theorem isAny_nilp  : isAny (.nilp) = false := (rfl)
@[simp] theorem isTup_nilp  : isTup (.nilp) = false := (rfl)
@[simp] theorem isAny_ptr (l : Nat) (o : Nat) : isAny (.ptr l o) = false := (rfl)
@[simp] theorem isTup_ptr (l : Nat) (o : Nat) : isTup (.ptr l o) = false := (rfl)
@[simp] theorem isAny_rptr (v : AV) : isAny (.rptr v) = false := (rfl)
@[simp] theorem isTup_rptr (v : AV) : isTup (.rptr v) = false := (rfl)
@[simp] theorem isAny_sl (t : Tok) (es : List AV) : isAny (.sl t es) = false := (rfl)
@[simp] theorem isTup_sl (t : Tok) (es : List AV) : isTup (.sl t es) = false := (rfl)
@[simp] theorem isAny_msl (l : Nat) (o : Nat) (n2 : Nat) (sz : Option Nat) : isAny (.msl l o n2 sz) = false := (rfl)
@[simp] theorem isTup_msl (l : Nat) (o : Nat) (n2 : Nat) (sz : Option Nat) : isTup (.msl l o n2 sz) = false := (rfl)
@[simp] theorem isAny_map (ml : Option Nat) : isAny (.map ml) = false := (rfl)
@[simp] theorem isTup_map (ml : Option Nat) : isTup (.map ml) = false := (rfl)
@[simp] theorem isAny_fn (f : Fn) (a : List AV) (b2 : List AV) : isAny (.fn f a b2) = false := (rfl)
@[simp] theorem isTup_fn (f : Fn) (a : List AV) (b2 : List AV) : isTup (.fn f a b2) = false := (rfl)
@[simp] theorem isAny_ub : isAny (.ub) = false := (rfl)
@[simp] theorem isTup_ub : isTup (.ub) = false := (rfl)
@[simp] theorem isAny_nilfn  : isAny (.nilfn) = false := (rfl)
@[simp] theorem isTup_nilfn  : isTup (.nilfn) = false := (rfl)
@[simp] theorem isAny_agg (cs : List AV) : isAny (.agg cs) = false := (rfl)
@[simp] theorem isTup_agg (cs : List AV) : isTup (.agg cs) = false := (rfl)
@[simp] theorem isAny_tup (cs : List AV) : isAny (.tup cs) = false := (rfl)
@[simp] theorem isTup_tup (cs : List AV) : isTup (.tup cs) = true := (rfl)

@[simp] theorem binA_add (e : EqK) (k k' : IntKind) (a b : Int) : binA .add e (.int k a) (.int k' b) = if k = k' then intBin .add k a b else none := (rfl)
@[simp] theorem binA_sub (e : EqK) (k k' : IntKind) (a b : Int) : binA .sub e (.int k a) (.int k' b) = if k = k' then intBin .sub k a b else none := (rfl)
@[simp] theorem binA_mul (e : EqK) (k k' : IntKind) (a b : Int) : binA .mul e (.int k a) (.int k' b) = if k = k' then intBin .mul k a b else none := (rfl)
@[simp] theorem binA_quo (e : EqK) (k k' : IntKind) (a b : Int) : binA .quo e (.int k a) (.int k' b) = if k = k' then intBin .quo k a b else none := (rfl)
@[simp] theorem binA_rem (e : EqK) (k k' : IntKind) (a b : Int) : binA .rem e (.int k a) (.int k' b) = if k = k' then intBin .rem k a b else none := (rfl)
@[simp] theorem binA_and (e : EqK) (k k' : IntKind) (a b : Int) : binA .and e (.int k a) (.int k' b) = if k = k' then intBin .and k a b else none := (rfl)
@[simp] theorem binA_or (e : EqK) (k k' : IntKind) (a b : Int) : binA .or e (.int k a) (.int k' b) = if k = k' then intBin .or k a b else none := (rfl)
@[simp] theorem binA_xor (e : EqK) (k k' : IntKind) (a b : Int) : binA .xor e (.int k a) (.int k' b) = if k = k' then intBin .xor k a b else none := (rfl)
@[simp] theorem binA_andNot (e : EqK) (k k' : IntKind) (a b : Int) : binA .andNot e (.int k a) (.int k' b) = if k = k' then intBin .andNot k a b else none := (rfl)
@[simp] theorem binA_eql (e : EqK) (k k' : IntKind) (a b : Int) : binA .eql e (.int k a) (.int k' b) = if k = k' then intBin .eql k a b else none := (rfl)
@[simp] theorem binA_neq (e : EqK) (k k' : IntKind) (a b : Int) : binA .neq e (.int k a) (.int k' b) = if k = k' then intBin .neq k a b else none := (rfl)
@[simp] theorem binA_lss (e : EqK) (k k' : IntKind) (a b : Int) : binA .lss e (.int k a) (.int k' b) = if k = k' then intBin .lss k a b else none := (rfl)
@[simp] theorem binA_leq (e : EqK) (k k' : IntKind) (a b : Int) : binA .leq e (.int k a) (.int k' b) = if k = k' then intBin .leq k a b else none := (rfl)
@[simp] theorem binA_gtr (e : EqK) (k k' : IntKind) (a b : Int) : binA .gtr e (.int k a) (.int k' b) = if k = k' then intBin .gtr k a b else none := (rfl)
@[simp] theorem binA_geq (e : EqK) (k k' : IntKind) (a b : Int) : binA .geq e (.int k a) (.int k' b) = if k = k' then intBin .geq k a b else none := (rfl)
@[simp] theorem binA_shl (e : EqK) (k k' : IntKind) (a b : Int) : binA .shl e (.int k a) (.int k' b) = shiftBin .shl k a b := (rfl)
@[simp] theorem binA_shr (e : EqK) (k k' : IntKind) (a b : Int) : binA .shr e (.int k a) (.int k' b) = shiftBin .shr k a b := (rfl)
@[simp] theorem binA_str (op : BinOp) (e : EqK) (a b : List UInt8) : binA op e (.str a) (.str b) = strBin op a b := by cases op <;> rfl
@[simp] theorem binA_eqlB (a b : Bool) : binA .eql .bool (.bool a) (.bool b) = some (.bool (a == b)) := (rfl)
@[simp] theorem binA_neqB (a b : Bool) : binA .neq .bool (.bool a) (.bool b) = some (.bool (!(a == b))) := (rfl)
@[simp] theorem binA_eqlP (x y : AV) : binA .eql .ptr x y = match x, y with
    | .int k a, .int k' b => if k = k' then some (.bool (a == b)) else none
    | .str a, .str b => some (.bool (a == b))
    | x, y => (eqKind .ptr x y).map .bool := by
  cases x <;> cases y <;> rfl
@[simp] theorem binA_neqP (x y : AV) : binA .neq .ptr x y = match x, y with
    | .int k a, .int k' b => if k = k' then some (.bool (a != b)) else none
    | .str a, .str b => some (.bool (!(a == b)))
    | x, y => (eqKind .ptr x y).map fun b => .bool (!b) := by
  cases x <;> cases y <;> rfl
@[simp] theorem binA_eqlF (ks : List Nat) (a b : List AV) : binA .eql (.flat ks) (.agg a) (.agg b) = (eqKind (.flat ks) (.agg a) (.agg b)).map .bool := (rfl)
@[simp] theorem binA_neqF (ks : List Nat) (a b : List AV) : binA .neq (.flat ks) (.agg a) (.agg b) = (eqKind (.flat ks) (.agg a) (.agg b)).map fun b => .bool (!b) := (rfl)
attribute [simp] eqKind isNilAddr eqCells
@[simp] theorem eqCell_int (k : IntKind) (a b : Int) : eqCell 0 (.int k a) (.int k b) = some (a == b) := if_pos rfl
@[simp] theorem eqCell_bool (a b : Bool) : eqCell 1 (.bool a) (.bool b) = some (a == b) := (rfl)
@[simp] theorem eqCell_str (a b : List UInt8) : eqCell 2 (.str a) (.str b) = some (a == b) := (rfl)

section
variable (k : IntKind) (x y : Int)
@[simp] theorem intBin_add : intBin .add k x y = some (.int k (k.wrap (x + y))) := (rfl)
@[simp] theorem intBin_sub : intBin .sub k x y = some (.int k (k.wrap (x - y))) := (rfl)
@[simp] theorem intBin_mul : intBin .mul k x y = some (.int k (k.wrap (x * y))) := (rfl)
@[simp] theorem intBin_eql : intBin .eql k x y = some (.bool (decide (x = y))) := (rfl)
@[simp] theorem intBin_neq : intBin .neq k x y = some (.bool (!decide (x = y))) := (rfl)
@[simp] theorem intBin_lss : intBin .lss k x y = some (.bool (decide (x < y))) := (rfl)
@[simp] theorem intBin_leq : intBin .leq k x y = some (.bool (decide (x ≤ y))) := (rfl)
@[simp] theorem intBin_gtr : intBin .gtr k x y = some (.bool (decide (x > y))) := (rfl)
@[simp] theorem intBin_geq : intBin .geq k x y = some (.bool (decide (x ≥ y))) := (rfl)
@[simp] theorem intBin_quo : intBin .quo k x y = if y = 0 then none else some (.int k (k.wrap (x.tdiv y))) := (rfl)
@[simp] theorem intBin_rem : intBin .rem k x y = if y = 0 then none else some (.int k (x.tmod y)) := (rfl)
theorem intBin_and : intBin .and k x y = some (.int k (k.wrap (BitVec.ofInt k.bits x &&& BitVec.ofInt k.bits y).toNat)) := rfl
theorem intBin_or : intBin .or k x y = some (.int k (k.wrap (BitVec.ofInt k.bits x ||| BitVec.ofInt k.bits y).toNat)) := rfl
theorem intBin_xor : intBin .xor k x y = some (.int k (k.wrap (BitVec.ofInt k.bits x ^^^ BitVec.ofInt k.bits y).toNat)) := rfl
theorem shiftBin_shl : shiftBin .shl k x y = if y < 0 then none else some (.int k (k.wrap (x * 2 ^ (min y.toNat k.bits)))) := rfl
theorem shiftBin_shr : shiftBin .shr k x y = if y < 0 then none else some (.int k (x.fdiv (2 ^ (min y.toNat k.bits)))) := rfl
variable (a b : List UInt8)
@[simp] theorem strBin_eql : strBin .eql a b = some (.bool (decide (a = b))) := by
  show some (AV.bool (a == b)) = _
  congr 2
  rw [Bool.eq_iff_iff]
  simp
@[simp] theorem strBin_neq : strBin .neq a b = some (.bool (!decide (a = b))) := by
  show some (AV.bool (!(a == b))) = _
  congr 2
  rw [Bool.eq_iff_iff]
  simp
@[simp] theorem strBin_lss : strBin .lss a b = some (.bool (Op.bytesLess a b)) := (rfl)
@[simp] theorem strBin_leq : strBin .leq a b = some (.bool (Op.bytesLess a b || a == b)) := (rfl)
@[simp] theorem unA_neg : unA .neg (.int k x) = some (.int k (k.wrap (0 - x))) := (rfl)
@[simp] theorem unA_not (b : Bool) : unA .not (.bool b) = some (.bool !b) := (rfl)
end
attribute [simp] bnd1 bounds args3 boundsOf

/-! What a function hands back. -/
@[simp] theorem wantedA_none (env : Env) : wantedA none env = some true := (rfl)

def callR (r : Option (List AV × St)) (Q : List AV → St → Prop) : Prop :=
  match r with
  | some (vs', st') => Q vs' st'
  | none => False
@[simp] theorem callR_some (vs : List AV) (st : St) (Q : List AV → St → Prop) : callR (some (vs, st)) Q = Q vs st := (rfl)

def resK (r : Option (List AV)) (st : St) (Q : List AV → St → Prop) : Prop :=
  match r with
  | some vs => callR (frzs vs st) Q
  | none => False
@[simp] theorem resK_some (vs : List AV) (st : St) (Q : List AV → St → Prop) : resK (some vs) st Q = callR (frzs vs st) Q := (rfl)

/-- The end of a call that leaves what was there as it was. -/
def DoneP (st0 : St) (rs : List RV) (R : AV → Prop) : Exit → Env → St → Prop
  | .normal, env, st => resK (resL env st rs) st fun vs st' => (st0.heap <+: st'.heap ∧ st0.toks <+: st'.toks) ∧ okL st0.heap.length st0.toks.length vs = true ∧ R (one vs)
  | .ret, env, st => resK (resL env st rs) st fun vs st' => (st0.heap <+: st'.heap ∧ st0.toks <+: st'.toks) ∧ okL st0.heap.length st0.toks.length vs = true ∧ R (one vs)
  | _, _, _ => False

@[simp] theorem DoneP_normal (st0 : St) (rs : List RV) (R : AV → Prop) (env : Env) (st : St) : DoneP st0 rs R .normal env st = resK (resL env st rs) st fun vs st' => (st0.heap <+: st'.heap ∧ st0.toks <+: st'.toks) ∧ okL st0.heap.length st0.toks.length vs = true ∧ R (one vs) := (rfl)
@[simp] theorem DoneP_ret (st0 : St) (rs : List RV) (R : AV → Prop) (env : Env) (st : St) : DoneP st0 rs R .ret env st = resK (resL env st rs) st fun vs st' => (st0.heap <+: st'.heap ∧ st0.toks <+: st'.toks) ∧ okL st0.heap.length st0.toks.length vs = true ∧ R (one vs) := (rfl)

theorem resK_elim {r : Option (List AV)} {st : St} {Q : List AV → St → Prop} (h : resK r st Q) : ∃ vs vs' st', r = some vs ∧ frzs vs st = some (vs', st') ∧ Q vs' st' := by
  unfold resK at h
  split at h
  · unfold callR at h
    split at h
    · exact ⟨_, _, _, rfl, by assumption, h⟩
    · exact h.elim
  · exact h.elim

theorem pure_of {P : Program} {O : Orc} {f np N : Nat} {ac : ACode} {rs : List RV} {args : List AV} {st : St} {R : AV → Prop} (hO : OSound P O) (hF : IsFun P f np N ac rs) (hnp : args.length = np)
    (h : awC (orc P O) ac (env0 args) st (DoneP st rs R)) : ASpec P f args st fun v st' => R v ∧ st' = st := by
  refine aspec_of hF hnp (awC_mono (C' := ASpec P) (fun f vs st K K' hc hk => orc_imp hO hc hk) ac _ st _ _ h fun e env' s hh => ?_)
  have key : ∀ r, resK r s (fun vs st' => (st.heap <+: st'.heap ∧ st.toks <+: st'.toks) ∧ okL st.heap.length st.toks.length vs = true ∧ R (one vs)) → ∃ vs, r = some vs ∧ (finish st vs s (fun v st' => R v ∧ st' = st) ∨ finishR st vs s (fun v st' => R v ∧ st' = st)) := by
    intro r hr
    obtain ⟨vs, vs', st2, h2, h3, ⟨⟨g, h4⟩, gt, h5⟩, h6, h7⟩ := resK_elim hr
    exact ⟨vs, h2, .inl ⟨vs', st2, h3, .inl ⟨g, gt, h4.symm, h5.symm, h6, h7, rfl⟩⟩⟩
  cases e with
  | normal => exact ⟨.inl rfl, key _ hh⟩
  | ret => exact ⟨.inr rfl, key _ hh⟩
  | _ => exact hh.elim

attribute [simp] resL resV frzs AV.norm normL okL AV.ok
@[simp] theorem one_1 (v : AV) : one [v] = v := (rfl)
@[simp] theorem one_0 : one [] = .tup [] := (rfl)
@[simp] theorem one_2 (a b : AV) (l : List AV) : one (a :: b :: l) = .tup (a :: b :: l) := (rfl)

@[simp] theorem frz1_any (st : St) : frz1 .any st = some (.any, st) := (rfl)
@[simp] theorem frz1_bool (st : St) (b : Bool) : frz1 (.bool b) st = some (.bool b, st) := (rfl)
@[simp] theorem frz1_int (st : St) (k : IntKind) (n : Int) : frz1 (.int k n) st = some (.int k n, st) := (rfl)
@[simp] theorem frz1_str (st : St) (l : List UInt8) : frz1 (.str l) st = some (.str l, st) := (rfl)
@[simp] theorem frz1_nilp (st : St) : frz1 .nilp st = some (.nilp, st) := (rfl)
@[simp] theorem frz1_nilfn (st : St) : frz1 .nilfn st = some (.nilfn, st) := (rfl)
@[simp] theorem frz1_ptr (st : St) (l o : Nat) : frz1 (.ptr l o) st = some (.ptr l o, st) := (rfl)
@[simp] theorem frz1_rptr (st : St) (v : AV) : frz1 (.rptr v) st = some (.rptr v.norm, st) := (rfl)
@[simp] theorem frz1_sl (st : St) (t : Tok) (es : List AV) : frz1 (.sl t es) st = some (.sl .any (normL es), st) := (rfl)
@[simp] theorem frz1_map (st : St) (l : Option Nat) : frz1 (.map l) st = some (.map l, st) := (rfl)
@[simp] theorem frz1_fn (st : St) (f : Fn) (a b : List AV) : frz1 (.fn f a b) st = some (.fn f (normL a) (normL b), st) := (rfl)
@[simp] theorem frz1_agg (st : St) (cs : List AV) : frz1 (.agg cs) st = some (.agg (normL cs), st) := (rfl)
@[simp] theorem frz1_tup (st : St) (cs : List AV) : frz1 (.tup cs) st = some (.tup (normL cs), st) := (rfl)
theorem frz1_msl (st : St) (l off len : Nat) (sz : Option Nat) (fz : Bool) (vs : List AV) (h : st.heap[l]? = some (.cells fz vs)) : frz1 (.msl l off len sz) st = if off + len * sz.getD 1 ≤ vs.length ∧ 0 < sz.getD 1 then some (.sl .any (chunk sz len (vs.drop off)), { st with heap := st.heap.set l (.cells true vs) }) else none := by
  simp only [frz1, h]

def loadR (sz : Option Nat) (v : AV) (st : St) : Option AV := evR (.load sz) [v] st
@[simp] theorem evR_load (sz : Option Nat) (l off : Nat) (st : St) : evR (.load sz) [.ptr l off] st = loadK sz off st.heap[l]? := by
  simp only [evR]
  cases st.heap[l]? with
  | none => rfl
  | some b => cases b <;> rfl


/-! Tables. -/
def Orc.none : Orc := fun _ _ => Option.none
theorem OSound.none {P : Program} : OSound P Orc.none := fun _ _ _ h => by cases h
def Orc.add (O : Orc) (f : Nat) (g : List AV → Option AV) : Orc := fun f' vs => if f' = f then g vs else O f' vs
theorem OSound.add {P : Program} {O : Orc} (hO : OSound P O) {f : Nat} {g : List AV → Option AV} (h : ∀ vs X, g vs = some X → ∀ st, ASpec P f vs st fun v st' => v = X ∧ st' = st) : OSound P (O.add f g) := by
  intro f' vs X hX st
  unfold Orc.add at hX
  split at hX
  · rename_i hf
    subst hf
    exact h vs X hX st
  · exact hO f' vs X hX st

def orcK (r : Option AV) (P : Program) (f : Nat) (args : List AV) (st st1 : St) (K : AV → St → Prop) : Prop :=
  match r with
  | some X => K X st1
  | Option.none => ASpec P f args st K
@[simp] theorem orcK_some (X : AV) (P : Program) (f : Nat) (vs : List AV) (st st1 : St) (K : AV → St → Prop) : orcK (some X) P f vs st st1 K = K X st1 := (rfl)
@[simp] theorem orcK_none (P : Program) (f : Nat) (vs : List AV) (st st1 : St) (K : AV → St → Prop) : orcK Option.none P f vs st st1 K = ASpec P f vs st K := (rfl)
def callK (O : Orc) (r : Option (List AV × St)) (P : Program) (f : Nat) (args : List AV) (st : St) (K : AV → St → Prop) : Prop :=
  match r with
  | some (vs, st1) => orcK (O f vs) P f args st st1 K
  | Option.none => ASpec P f args st K
@[simp] theorem callK_some (O : Orc) (vs : List AV) (st1 : St) (P : Program) (f : Nat) (args : List AV) (st : St) (K : AV → St → Prop) : callK O (some (vs, st1)) P f args st K = orcK (O f vs) P f args st st1 K := (rfl)
@[simp] theorem orc_apply (P : Program) (O : Orc) (f : Nat) (vs : List AV) (st : St) (K : AV → St → Prop) : orc P O f vs st K = callK O (frzs vs st) P f vs st K := by
  unfold orc callK
  cases frzs vs st with
  | none => rfl
  | some p => cases p; simp only [orcK]; rfl
theorem orc_mono {P : Program} {O : Orc} : ∀ f vs st (K K' : AV → St → Prop), orc P O f vs st K → (∀ v st', K v st' → K' v st') → orc P O f vs st K' := by
  intro f vs st K K' h hk
  unfold orc at h ⊢
  split at h
  · split at h
    · exact hk _ _ h
    · exact h.mono hk
  · exact h.mono hk

theorem wrap64_id {n : Int} (h1 : -9223372036854775808 ≤ n) (h2 : n < 9223372036854775808) : IntKind.i64.wrap n = n := by
  rw [IntKind.wrap_i64]
  omega

/-! Loops. -/
theorem Trunc.pop {st0 : St} {env : Env} {st : St} {L : List Nat} (h1 : st0.heap <+: st.heap) (h2 : st0.toks <+: st.toks) (h : ∀ t ∈ L, (env t).ok st0.heap.length st0.toks.length = true) : Trunc st0 env st L st0 :=
  ⟨h, h1, h2, rfl, rfl, fun l b hb => .inl hb⟩

theorem okL_map {α : Type} {n m : Nat} (f : α → AV) (l : List α) (h : ∀ x ∈ l, (f x).ok n m = true) : okL n m (l.map f) = true := by
  induction l with
  | nil => rfl
  | cons x xs ih =>
    simp only [List.map_cons, okL, Bool.and_eq_true]
    exact ⟨h x (by simp), ih fun y hy => h y (by simp [hy])⟩

theorem awC_loop {P : Program} {O : Orc} {b : ACode} {K : Exit → Env → St → Prop} {env : Env} {st : St} (I : Nat → Env → St → Prop) (n : Nat) (h0 : I n env st)
    (h : ∀ n env st, I n env st → awC (orc P O) b env st (loopK I n st K)) : awC (orc P O) (.loop b) env st K := awC_loopG orc_mono I n env st (.refl _ _) h0 h
theorem awC_loopU {P : Program} {O : Orc} {b : ACode} {K : Exit → Env → St → Prop} {env : Env} {st : St} (n : Nat) (h : awU (orc P O) b K n env st) : awC (orc P O) (.loop b) env st K := awC_unroll orc_mono n h
theorem awC_loopW {P : Program} {O : Orc} {b : ACode} {K : Exit → Env → St → Prop} {env : Env} {st : St} (I : Nat → Env → St → Prop) (n : Nat) (h0 : I n env st)
    (h : ∀ n env st, I n env st → awC (orc P O) b env st (growK I n K)) : awC (orc P O) (.loop b) env st K := awC_grow orc_mono I n h0 h

/-! A table's row, told by what is put in. -/
open Classical in
noncomputable def tab {α : Type} (enc : α → List AV) (val : α → AV) (dom : α → Prop) : List AV → Option AV := fun vs => if h : ∃ x, enc x = vs ∧ dom x then some (val h.choose) else none

theorem tab_eq {α : Type} {enc : α → List AV} {val : α → AV} {dom : α → Prop} (hi : ∀ x y, enc x = enc y → val x = val y) {x : α} (hd : dom x) : tab enc val dom (enc x) = some (val x) := by
  unfold tab
  have h : ∃ y, enc y = enc x ∧ dom y := ⟨x, rfl, hd⟩
  rw [dif_pos h, hi _ _ h.choose_spec.1]

theorem OSound.tab {P : Program} {O : Orc} (hO : OSound P O) {f : Nat} {α : Type} {enc : α → List AV} {val : α → AV} {dom : α → Prop} (h : ∀ x, dom x → ∀ st, ASpec P f (enc x) st fun v st' => v = val x ∧ st' = st) : OSound P (O.add f (tab enc val dom)) :=
  hO.add fun vs X hX st => by
    unfold Am.tab at hX
    split at hX
    · rename_i hh
      injection hX with hX
      subst hX
      have := h hh.choose hh.choose_spec.2 st
      rw [hh.choose_spec.1] at this
      exact this
    · cases hX

theorem Orc.add_same (O : Orc) (f : Nat) (g : List AV → Option AV) (vs : List AV) : O.add f g f vs = g vs := if_pos rfl
theorem Orc.add_other (O : Orc) (f f' : Nat) (g : List AV → Option AV) (vs : List AV) (h : f' ≠ f) : O.add f g f' vs = O f' vs := if_neg h

/-! Bytes. -/
@[simp] theorem ofBytes_length (l : List UInt8) : (ofBytes l).length = l.length := by simp [ofBytes]
@[simp] theorem ofBytes_nil : ofBytes [] = [] := (rfl)
theorem toBytes_ofBytes : ∀ (l : List UInt8), toBytes (ofBytes l) = some l
  | [] => rfl
  | b :: l => by
    have := toBytes_ofBytes l
    simp [ofBytes, toBytes] at this ⊢
    simp [this]
attribute [simp] toBytes_ofBytes
theorem ofBytes_inj {a b : List UInt8} (h : ofBytes a = ofBytes b) : a = b := by
  have := congrArg toBytes h
  simpa using this
@[simp] theorem ofBytes_eq {a b : List UInt8} : ofBytes a = ofBytes b ↔ a = b := ⟨ofBytes_inj, fun h => h ▸ rfl⟩
@[simp] theorem normL_ofBytes : ∀ (l : List UInt8), normL (ofBytes l) = ofBytes l
  | [] => rfl
  | b :: l => by
    have := normL_ofBytes l
    simp [ofBytes] at this ⊢
    exact this
@[simp] theorem okL_ofBytes (n m : Nat) (l : List UInt8) : okL n m (ofBytes l) = true := okL_map _ _ (by simp)
@[simp] theorem allSz_ofBytes (l : List UInt8) : allSz 1 (ofBytes l) = true := by simp [allSz, ofBytes]
@[simp] theorem ofBytes_append (a b : List UInt8) : ofBytes a ++ ofBytes b = ofBytes (a ++ b) := by simp [ofBytes]
@[simp] theorem ofBytes_take (a : List UInt8) (n : Nat) : (ofBytes a).take n = ofBytes (a.take n) := by simp [ofBytes]
@[simp] theorem ofBytes_drop (a : List UInt8) (n : Nat) : (ofBytes a).drop n = ofBytes (a.drop n) := by simp [ofBytes]

/-! Words of 32 bits. -/
def u32 (r : BitVec 32) : AV := .int .u32 r.toNat
def u8 (b : UInt8) : AV := .int .u8 b.toNat
@[simp] theorem isMslM (b : UInt8) : isMsl.match_1 (motive := fun _ => Bool) (u8 b) (fun _ _ _ _ => true) (fun _ => false) = false := (rfl)

@[simp] theorem ofBytes_get (l : List UInt8) (i : Nat) : (ofBytes l)[i]? = l[i]?.map u8 := by
  simp [ofBytes]
  rfl
@[simp] theorem shaped_u32 (r : BitVec 32) : shaped none (u32 r) = true := (rfl)
@[simp] theorem shaped_u8 (r : UInt8) : shaped none (u8 r) = true := (rfl)
@[simp] theorem cells_u32 (r : BitVec 32) : (u32 r).cells = [u32 r] := (rfl)
@[simp] theorem cells_u8 (r : UInt8) : (u8 r).cells = [u8 r] := (rfl)
@[simp] theorem isAggV_u32 (r : BitVec 32) : isAggV (u32 r) = false := (rfl)
@[simp] theorem isAggV_u8 (r : UInt8) : isAggV (u8 r) = false := (rfl)
@[simp] theorem isAny_u32 (r : BitVec 32) : isAny (u32 r) = false := (rfl)
@[simp] theorem isAny_u8 (r : UInt8) : isAny (u8 r) = false := (rfl)
@[simp] theorem isTup_u32 (r : BitVec 32) : isTup (u32 r) = false := (rfl)
@[simp] theorem isTup_u8 (r : UInt8) : isTup (u8 r) = false := (rfl)
@[simp] theorem norm_u32 (r : BitVec 32) : (u32 r).norm = u32 r := (rfl)
@[simp] theorem norm_u8 (r : UInt8) : (u8 r).norm = u8 r := (rfl)
@[simp] theorem frz1_u32 (st : St) (r : BitVec 32) : frz1 (u32 r) st = some (u32 r, st) := (rfl)
@[simp] theorem frz1_u8 (st : St) (r : UInt8) : frz1 (u8 r) st = some (u8 r, st) := (rfl)
@[simp] theorem ok_u32 (n m : Nat) (r : BitVec 32) : (u32 r).ok n m = true := (rfl)
@[simp] theorem ok_u8 (n m : Nat) (r : UInt8) : (u8 r).ok n m = true := (rfl)
@[simp] theorem u32_inj {a b : BitVec 32} : u32 a = u32 b ↔ a = b := by
  constructor
  · intro h
    simp only [u32, AV.int.injEq, true_and] at h
    exact BitVec.eq_of_toNat_eq (by omega)
  · rintro rfl; rfl
@[simp] theorem u8_inj {a b : UInt8} : u8 a = u8 b ↔ a = b := by
  constructor
  · intro h
    simp only [u8, AV.int.injEq, true_and] at h
    exact UInt8.toNat_inj.1 (by omega)
  · rintro rfl; rfl
section
variable (a b : BitVec 32)
theorem ofInt_u32 : BitVec.ofInt 32 (a.toNat : Int) = a := by
  rw [BitVec.ofInt_natCast, BitVec.ofNat_toNat, BitVec.setWidth_eq]
theorem wrap_u32_id (n : Nat) (h : n < 4294967296) : IntKind.u32.wrap (n : Int) = n := IntWalk.u32_in _ (by omega)
@[simp] theorem and_u32 (e : EqK) : binA .and e (u32 a) (u32 b) = some (u32 (a &&& b)) := by
  show some (AV.int .u32 (IntKind.u32.wrap ((BitVec.ofInt 32 a.toNat &&& BitVec.ofInt 32 b.toNat).toNat : Int))) = _
  rw [ofInt_u32, ofInt_u32, wrap_u32_id _ (a &&& b).isLt]
  rfl
@[simp] theorem or_u32 (e : EqK) : binA .or e (u32 a) (u32 b) = some (u32 (a ||| b)) := by
  show some (AV.int .u32 (IntKind.u32.wrap ((BitVec.ofInt 32 a.toNat ||| BitVec.ofInt 32 b.toNat).toNat : Int))) = _
  rw [ofInt_u32, ofInt_u32, wrap_u32_id _ (a ||| b).isLt]
  rfl
@[simp] theorem xor_u32 (e : EqK) : binA .xor e (u32 a) (u32 b) = some (u32 (a ^^^ b)) := by
  show some (AV.int .u32 (IntKind.u32.wrap ((BitVec.ofInt 32 a.toNat ^^^ BitVec.ofInt 32 b.toNat).toNat : Int))) = _
  rw [ofInt_u32, ofInt_u32, wrap_u32_id _ (a ^^^ b).isLt]
  rfl
@[simp] theorem neg_u32 : unA .neg (u32 a) = some (u32 (-a)) := by
  simp only [unA, u32, IntKind.wrap_u32, BitVec.toNat_neg]
  have := a.isLt
  congr 2
  omega
@[simp] theorem not_u32 : unA .xor (u32 a) = some (u32 (~~~a)) := by
  show some (AV.int .u32 (IntKind.u32.wrap ((BitVec.ofInt 32 IntKind.u32.max ^^^ BitVec.ofInt 32 a.toNat).toNat : Int))) = _
  rw [ofInt_u32]
  have : BitVec.ofInt 32 IntKind.u32.max = BitVec.allOnes 32 := by decide
  rw [this, BitVec.allOnes_xor, wrap_u32_id _ (~~~a).isLt]
  rfl
theorem shr_u32 (k : Nat) (h : k ≤ 32) (e : EqK) (k' : IntKind) : binA .shr e (u32 a) (.int k' k) = some (u32 (a >>> k)) := by
  simp only [u32, binA_shr, shiftBin, IntKind.bits]
  rw [if_neg (by omega)]
  congr 2
  rw [show min ((k : Int).toNat) 32 = k by omega, BitVec.toNat_ushiftRight, Nat.shiftRight_eq_div_pow]
  have : ((2 : Int) ^ k) = ((2 ^ k : Nat) : Int) := by simp
  have h2 : 0 < 2 ^ k := Nat.pow_pos (by decide)
  exact (Int.fdiv_eq_ediv_of_nonneg _ (by omega)).trans rfl
@[simp] theorem shr1_u32 (e : EqK) (k : IntKind) : binA .shr e (u32 a) (.int k 1) = some (u32 (a >>> 1)) := shr_u32 a 1 (by decide) e k
@[simp] theorem shr4_u32 (e : EqK) (k : IntKind) : binA .shr e (u32 a) (.int k 4) = some (u32 (a >>> 4)) := shr_u32 a 4 (by decide) e k
@[simp] theorem shr8_u32 (e : EqK) (k : IntKind) : binA .shr e (u32 a) (.int k 8) = some (u32 (a >>> 8)) := shr_u32 a 8 (by decide) e k
@[simp] theorem shr16_u32 (e : EqK) (k : IntKind) : binA .shr e (u32 a) (.int k 16) = some (u32 (a >>> 16)) := shr_u32 a 16 (by decide) e k
@[simp] theorem shr24_u32 (e : EqK) (k : IntKind) : binA .shr e (u32 a) (.int k 24) = some (u32 (a >>> 24)) := shr_u32 a 24 (by decide) e k
theorem lit_u32 (n : Nat) (h : n < 4294967296) : AV.int .u32 (n : Int) = u32 (BitVec.ofNat 32 n) := by
  rw [u32, BitVec.toNat_ofNat, Nat.mod_eq_of_lt h]
@[simp] theorem wrap_u32_lit (x : Int) : AV.int .u32 (IntKind.u32.wrap x) = u32 (BitVec.ofInt 32 x) := by
  rw [u32, BitVec.toNat_ofInt, IntKind.wrap_u32]
  congr 1
  omega
@[simp] theorem lit0_u32 : AV.int .u32 0 = u32 0#32 := (rfl)
@[simp] theorem lit1_u32 : AV.int .u32 1 = u32 1#32 := (rfl)
@[simp] theorem lit15_u32 : AV.int .u32 15 = u32 15#32 := (rfl)
@[simp] theorem litP_u32 : AV.int .u32 3988292384 = u32 3988292384#32 := (rfl)
@[simp] theorem eql_u32 (e : EqK) : binA .eql e (u32 a) (u32 b) = some (.bool (decide (a = b))) := by
  show some (AV.bool ((a.toNat : Int) == b.toNat)) = _
  congr 2
  rw [Bool.eq_iff_iff]
  simp
  exact ⟨fun h => BitVec.eq_of_toNat_eq (by omega), fun h => by rw [h]⟩
@[simp] theorem neq_u32 (e : EqK) : binA .neq e (u32 a) (u32 b) = some (.bool (!decide (a = b))) := by
  show some (AV.bool ((a.toNat : Int) != b.toNat)) = _
  congr 2
  rw [Bool.eq_iff_iff]
  simp
  exact ⟨fun h h2 => h (by rw [h2]), fun h h2 => h (BitVec.eq_of_toNat_eq (by omega))⟩
end
section
variable (st : St) (x y : UInt8)
@[simp] theorem conv_u32_u8 : evA (.conv .u32) [u8 x] st = some (u32 (x.toBitVec.setWidth 32), st) := by
  show some (AV.int .u32 (IntKind.u32.wrap (x.toNat : Int)), st) = _
  rw [wrap_u32_id _ (by have := x.toNat_lt; omega), u32]
  congr 3
@[simp] theorem conv_i64_u8 : evA (.conv .i64) [u8 x] st = some (.int .i64 x.toNat, st) := by
  show some (AV.int .i64 (IntKind.i64.wrap (x.toNat : Int)), st) = _
  rw [IntWalk.i64_in _ (by have := x.toNat_lt; omega)]
theorem conv_u32_i64 (n : Nat) (h : n < 4294967296) : evA (.conv .u32) [.int .i64 n] st = some (u32 (BitVec.ofNat 32 n), st) := by
  show some (AV.int .u32 (IntKind.u32.wrap (n : Int)), st) = _
  rw [wrap_u32_id _ h, lit_u32 _ h]
@[simp] theorem conv_u8_u32 (r : BitVec 32) : evA (.conv .u8) [u32 r] st = some (u8 (UInt8.ofBitVec (r.setWidth 8)), st) := by
  show some (AV.int .u8 (IntKind.u8.wrap (r.toNat : Int)), st) = _
  rw [IntKind.wrap_u8, u8]
  congr 3
@[simp] theorem eql_u8 (e : EqK) : binA .eql e (u8 x) (u8 y) = some (.bool (decide (x = y))) := by
  show some (AV.bool ((x.toNat : Int) == y.toNat)) = _
  congr 2
  rw [Bool.eq_iff_iff]
  simp
  exact ⟨fun h => UInt8.toNat_inj.1 (by omega), fun h => by rw [h]⟩
@[simp] theorem neq_u8 (e : EqK) : binA .neq e (u8 x) (u8 y) = some (.bool (!decide (x = y))) := by
  show some (AV.bool ((x.toNat : Int) != y.toNat)) = _
  congr 2
  rw [Bool.eq_iff_iff]
  simp
  exact ⟨fun h h2 => h (by rw [h2]), fun h h2 => h (UInt8.toNat_inj.1 (by omega))⟩
end
@[simp] theorem toBytes_nil : toBytes [] = some [] := (rfl)
@[simp] theorem toBytes_u8 (b : UInt8) (l : List AV) : toBytes (u8 b :: l) = (toBytes l).map (b :: ·) := by
  simp [u8, toBytes]


theorem setRange_eq : ∀ (cs vs : List AV) (off : Nat), off + cs.length ≤ vs.length → setRange vs off cs = vs.take off ++ cs ++ vs.drop (off + cs.length)
  | [], vs, off, _ => by simp [setRange]
  | c :: cs, vs, off, h => by
    simp only [List.length_cons] at h
    rw [setRange, setRange_eq cs _ _ (by simp; omega)]
    have : (vs.set off c).take (off + 1) = vs.take off ++ [c] := by
      rw [List.take_succ_eq_append_getElem (by simp; omega), List.getElem_set_self, List.take_set_of_le (by omega)]
    rw [this, List.drop_set_of_lt (by omega)]
    simp [Nat.add_comm, Nat.add_left_comm]

theorem setRange_all {cs vs : List AV} (h : vs.length = cs.length) : setRange vs 0 cs = cs := by
  rw [setRange_eq cs vs 0 (by omega)]
  simp
  omega

theorem Trunc.over {base r0 r : List Blk} {t0 tk : List (Nat × Nat)} {env : Env} {st : St} {L : List Nat} (h1 : base ++ r <+: st.heap) (h2 : tk <+: st.toks) (hr : r0.length = r.length) (ht : t0.length = tk.length)
    (hb : r.all (okBlk (base.length + r.length) tk.length) = true) (h : ∀ t ∈ L, (env t).ok (base.length + r.length) tk.length = true) : Trunc ⟨base ++ r0, t0⟩ env st L ⟨base ++ r, tk⟩ := by
  refine ⟨by simpa using h, h1, h2, by simp [hr], ht, fun l b hl => ?_⟩
  simp only at hl ⊢
  by_cases hlt : l < base.length
  · left
    rw [List.getElem?_append_left hlt] at hl ⊢
    exact hl
  · right
    rw [List.getElem?_append_right (by omega)] at hl
    simpa using List.all_eq_true.1 hb b (List.mem_of_getElem? hl)
attribute [simp] okBlk

theorem normL_map {α : Type} (f : α → AV) (l : List α) (h : ∀ x, (f x).norm = f x) : normL (l.map f) = l.map f := by
  induction l with
  | nil => rfl
  | cons x xs ih => simp [h, ih]

/-- A word as an index. -/
def nu (r : BitVec 32) : Nat := r.toNat
section
variable (st : St)
@[simp] theorem evA_idxArr_u32 (sz : Option Nat) (l off len : Nat) (r : BitVec 32) : evA (.idxArr len sz) [.ptr l off, u32 r] st = (if nu r < len then some (AV.ptr l (off + nu r * sz.getD 1)) else none).map fun v => (v, st) := by
  rw [u32, evA_idxArr]
  unfold nu
  simp
@[simp] theorem evA_idxArr_u8 (sz : Option Nat) (l off len : Nat) (r : UInt8) : evA (.idxArr len sz) [.ptr l off, u8 r] st = (if r.toNat < len then some (AV.ptr l (off + r.toNat * sz.getD 1)) else none).map fun v => (v, st) := by
  rw [u8, evA_idxArr]
  simp
end
@[simp] theorem tokOk_any (m : Nat) : tokOk m .any = true := (rfl)
@[simp] theorem tokOk_clip (m : Nat) : tokOk m .clip = true := (rfl)
@[simp] theorem tokOk_own (m k : Nat) : tokOk m (.own k) = decide (k < m) := (rfl)

theorem Trunc.tok {st0 : St} {tk : List (Nat × Nat)} {env : Env} {st : St} {L : List Nat} (h1 : st0.heap <+: st.heap) (h2 : tk <+: st.toks) (ht : st0.toks.length = tk.length)
    (h : ∀ t ∈ L, (env t).ok st0.heap.length tk.length = true) : Trunc st0 env st L ⟨st0.heap, tk⟩ := ⟨h, h1, h2, rfl, ht, fun l b hb => .inl hb⟩

/-! Appending. -/
section
variable (st : St) (sz : Option Nat) (es new : List AV) (t : Tok) (k : Nat) (l : List UInt8)
@[simp] theorem evA_appC : evA (.append sz) [.sl .clip es, .sl t new] st = if allSz (sz.getD 1) new = true ∧ allSz (sz.getD 1) es = true ∧ es.length + new.length ≤ 2147483648 then some (.sl (.own st.toks.length) (es ++ normL new), ⟨st.heap, st.toks ++ [(es.length + new.length, sz.getD 1)]⟩) else none := by
  by_cases h : allSz (sz.getD 1) new = true
  · rw [evA_appClip (new := new) (h := by simp only [srcEs, if_pos h])]
    by_cases c : (allSz (sz.getD 1) es = true ∧ es.length + new.length ≤ limit)
    · rw [if_pos c, if_pos ⟨h, c⟩]
    · rw [if_neg c, if_neg (fun x => c x.2)]
  · rw [if_neg (by simp [h])]
    simp [evA, AOp.cls, evT, srcEs, h]
@[simp] theorem evA_appO : evA (.append sz) [.sl (.own k) es, .sl t new] st = if allSz (sz.getD 1) new = true ∧ allSz (sz.getD 1) es = true ∧ es.length + new.length ≤ 2147483648 then appK es.length k (es.length + new.length) (es ++ normL new) (sz.getD 1) st st.toks[k]? else none := by
  by_cases h : allSz (sz.getD 1) new = true
  · rw [evA_appOwn (new := new) (h := by simp only [srcEs, if_pos h])]
    by_cases c : (allSz (sz.getD 1) es = true ∧ es.length + new.length ≤ limit)
    · rw [if_pos c, if_pos ⟨h, c⟩]
    · rw [if_neg c, if_neg (fun x => c x.2)]
  · rw [if_neg (by simp [h])]
    simp [evA, AOp.cls, evT, srcEs, h]
@[simp] theorem evA_appCs : evA (.append none) [.sl .clip es, .str l] st = if allSz 1 es = true ∧ es.length + l.length ≤ 2147483648 then some (.sl (.own st.toks.length) (es ++ ofBytes l), ⟨st.heap, st.toks ++ [(es.length + l.length, 1)]⟩) else none := by
  rw [evA_appClip (new := ofBytes l) (h := by simp [srcEs])]
  simp [limit]
@[simp] theorem evA_appOs : evA (.append none) [.sl (.own k) es, .str l] st = if allSz 1 es = true ∧ es.length + l.length ≤ 2147483648 then appK es.length k (es.length + l.length) (es ++ ofBytes l) 1 st st.toks[k]? else none := by
  rw [evA_appOwn (new := ofBytes l) (h := by simp [srcEs])]
  simp [limit]
end
attribute [simp] fillA slTok
@[simp] theorem allSz_nil (k : Nat) : allSz k [] = true := rfl
@[simp] theorem allSz_cons (k : Nat) (e : AV) (es : List AV) : allSz k (e :: es) = ((e.cells.length == k) && allSz k es) := rfl
@[simp] theorem allSz_append (k : Nat) (a b : List AV) : allSz k (a ++ b) = (allSz k a && allSz k b) := by simp [allSz]
theorem allSz_map {α : Type} (k : Nat) (f : α → AV) (l : List α) (h : ∀ x, (f x).cells.length = k) : allSz k (l.map f) = true := by simp [allSz, h]

theorem awC_loopOwn {P : Program} {O : Orc} {b : ACode} {K : Exit → Env → St → Prop} {env : Env} {st : St} (t sz : Nat) (es : List AV) (h : env t = .sl .clip es) (I : Nat → Env → St → Prop) (n : Nat) (h0 : I n (put env (some t) (.sl (.own st.toks.length) es)) ⟨st.heap, st.toks ++ [(es.length, sz)]⟩)
    (hl : ∀ n env st, I n env st → awC (orc P O) b env st (loopK I n st K)) : awC (orc P O) (.loop b) env st K := awC_loopG orc_mono I n _ _ (.own t sz h) h0 hl

/-! What was made, handed over. -/
def frzK (l off len : Nat) (sz : Option Nat) (st : St) (b : Option Blk) : Option (AV × St) :=
  match b with
  | some (.cells _ vs) => if off + len * sz.getD 1 ≤ vs.length ∧ 0 < sz.getD 1 then some (.sl .any (chunk sz len (vs.drop off)), { st with heap := st.heap.set l (.cells true vs) }) else none
  | _ => none
@[simp] theorem frzK_some (l off len : Nat) (sz : Option Nat) (st : St) (fz : Bool) (vs : List AV) : frzK l off len sz st (some (.cells fz vs)) = if off + len * sz.getD 1 ≤ vs.length ∧ 0 < sz.getD 1 then some (.sl .any (chunk sz len (vs.drop off)), { st with heap := st.heap.set l (.cells true vs) }) else none := (rfl)
@[simp] theorem frz1_made (st : St) (l off len : Nat) (sz : Option Nat) : frz1 (.msl l off len sz) st = frzK l off len sz st st.heap[l]? := by
  simp only [frz1]
  cases st.heap[l]? with
  | none => rfl
  | some b => cases b <;> rfl

theorem chunk_none : ∀ (n : Nat) (cs : List AV), cs.length = n → chunk none n cs = cs
  | 0, cs, h => by
    cases cs with
    | nil => rfl
    | cons _ _ => simp at h
  | n + 1, cs, h => by
    cases cs with
    | nil => simp at h
    | cons c cs =>
      simp only [List.length_cons, Nat.add_right_cancel_iff] at h
      simp [chunk, mkElem, chunk_none n cs h]
@[simp] theorem rowOf_u8 (n : Nat) : rowOf n [AV.int .u8 0] = ofBytes (z8 n) := by
  rw [rowOf, z8]
  induction n with
  | zero => rfl
  | succ n ih =>
    rw [List.replicate_succ, List.flatten_cons, ih, List.replicate_succ]
    rfl
@[simp] theorem chunk_z8 (n : Nat) : chunk none n (ofBytes (z8 n)) = ofBytes (z8 n) := chunk_none _ _ (by simp)
@[simp] theorem chunk_ofBytes (l : List UInt8) : chunk none l.length (ofBytes l) = ofBytes l := chunk_none _ _ (by simp)

/-- The end of a call that hands back as it is what it hands back. -/
def rawK (r : Option (List AV)) (Q : List AV → Prop) : Prop :=
  match r with
  | some vs => Q vs
  | none => False
@[simp] theorem rawK_some (vs : List AV) (Q : List AV → Prop) : rawK (some vs) Q = Q vs := (rfl)
def DoneR (st0 : St) (rs : List RV) (R : AV → St → Prop) : Exit → Env → St → Prop
  | .normal, env, st => rawK (resL env st rs) fun vs => finishR st0 vs st R
  | .ret, env, st => rawK (resL env st rs) fun vs => finishR st0 vs st R
  | _, _, _ => False
@[simp] theorem DoneR_normal (st0 : St) (rs : List RV) (R : AV → St → Prop) (env : Env) (st : St) : DoneR st0 rs R .normal env st = rawK (resL env st rs) fun vs => finishR st0 vs st R := (rfl)
@[simp] theorem DoneR_ret (st0 : St) (rs : List RV) (R : AV → St → Prop) (env : Env) (st : St) : DoneR st0 rs R .ret env st = rawK (resL env st rs) fun vs => finishR st0 vs st R := (rfl)

theorem raw_of {P : Program} {O : Orc} {f np N : Nat} {ac : ACode} {rs : List RV} {args : List AV} {st : St} {R : AV → St → Prop} (hO : OSound P O) (hF : IsFun P f np N ac rs) (hnp : args.length = np)
    (h : awC (orc P O) ac (env0 args) st (DoneR st rs R)) : ASpec P f args st R := by
  refine aspec_of hF hnp (awC_mono (C' := ASpec P) (fun f vs st K K' hc hk => orc_imp hO hc hk) ac _ st _ _ h fun e env' s hh => ?_)
  have key : ∀ r, rawK r (fun vs => finishR st vs s R) → ∃ vs, r = some vs ∧ (finish st vs s R ∨ finishR st vs s R) := by
    intro r hr
    unfold rawK at hr
    split at hr
    · exact ⟨_, rfl, .inr hr⟩
    · exact hr.elim
  cases e with
  | normal => exact ⟨.inl rfl, key _ hh⟩
  | ret => exact ⟨.inr rfl, key _ hh⟩
  | _ => exact hh.elim

@[simp] theorem flat_ofBytes : ∀ (l : List UInt8), flat (ofBytes l) = ofBytes l
  | [] => rfl
  | b :: l => by
    have := flat_ofBytes l
    simp only [flat, ofBytes, List.map_cons, List.flatMap_cons] at this ⊢
    rw [this]
    rfl


/-! Copying; a slice of an array. -/
def copyK (sz sz' : Option Nat) (l off len : Nat) (es : List AV) (st : St) (b : Option Blk) : Option (AV × St) :=
  match b with
  | some (.cells false vs) => if sz = sz' ∧ off + len * sz.getD 1 ≤ vs.length then some (.int .i64 (min es.length len : Nat), { st with heap := st.heap.set l (.cells false (setRange vs off (flat (es.take (min es.length len))))) }) else none
  | _ => none
@[simp] theorem copyK_some (sz sz' : Option Nat) (l off len : Nat) (es : List AV) (st : St) (vs : List AV) : copyK sz sz' l off len es st (some (.cells false vs)) = if sz = sz' ∧ off + len * sz.getD 1 ≤ vs.length then some (.int .i64 (min es.length len : Nat), { st with heap := st.heap.set l (.cells false (setRange vs off (flat (es.take (min es.length len))))) }) else none := (rfl)
@[simp] theorem evA_copyS (sz sz' : Option Nat) (l off len : Nat) (t : Tok) (es : List AV) (st : St) : evA (.copy sz) [.msl l off len sz', .sl t es] st = if allSz (sz.getD 1) es = true then copyK sz sz' l off len es st st.heap[l]? else none := by
  simp only [evA, AOp.cls, evW, srcEs]
  by_cases h : allSz (sz.getD 1) es = true
  · rw [if_pos h, if_pos h]
    cases st.heap[l]? with
    | none => rfl
    | some b =>
      cases b with
      | cells fz vs => cases fz <;> rfl
      | _ => rfl
  · rw [if_neg h, if_neg h]

def slcArrK (n : Nat) (sz : Option Nat) (l off a b : Nat) (st : St) (blk : Option Blk) : Option (AV × St) :=
  match blk with
  | some (.cells _ vs) => if off + n * sz.getD 1 ≤ vs.length ∧ (a = 0 ∨ a < n) then some (.msl l (off + a * sz.getD 1) (b - a) sz, st) else none
  | _ => none
@[simp] theorem slcArrK_some (n : Nat) (sz : Option Nat) (l off a b : Nat) (st : St) (fz : Bool) (vs : List AV) : slcArrK n sz l off a b st (some (.cells fz vs)) = if off + n * sz.getD 1 ≤ vs.length ∧ (a = 0 ∨ a < n) then some (.msl l (off + a * sz.getD 1) (b - a) sz, st) else none := (rfl)
@[simp] theorem evA_slcArr (n : Nat) (sz : Option Nat) (lo hi : Bool) (l off : Nat) (bs : List AV) (st : St) : evA (.slcArr n sz lo hi) (.ptr l off :: bs) st = (boundsOf lo hi false n bs).bind fun p => slcArrK n sz l off p.1 p.2.1 st st.heap[l]? := by
  simp only [evA, AOp.cls, evR]
  cases boundsOf lo hi false n bs with
  | none => rfl
  | some p =>
    simp only [Option.bind_some]
    cases st.heap[l]? with
    | none => rfl
    | some b =>
      cases b with
      | cells fz vs =>
        simp only [slcArrK]
        split <;> rfl
      | _ => rfl

theorem awC_loopM {P : Program} {O : Orc} {b : ACode} {K : Exit → Env → St → Prop} {env : Env} {st : St} (t l len : Nat) (sz : Option Nat) (vs : List AV) (h : env t = .msl l 0 len sz) (hpos : 0 < sz.getD 1) (hh : st.heap[l]? = some (.cells false vs)) (hlen : vs.length = len * sz.getD 1)
    (I : Nat → Env → St → Prop) (n : Nat) (h0 : I n (put env (some t) (.sl (.own st.toks.length) (chunk sz len vs))) ⟨st.heap.set l (.cells true vs), st.toks ++ [(len, sz.getD 1)]⟩)
    (hl : ∀ n env st, I n env st → awC (orc P O) b env st (loopK I n st K)) : awC (orc P O) (.loop b) env st K := awC_loopG orc_mono I n _ _ (.msl t h hpos hh hlen) h0 hl

/-! Shifts of what is not negative. -/
theorem shr_nn (k : IntKind) (x y : Int) (h : 0 ≤ x ∧ 0 ≤ y ∧ y ≤ k.bits) : shiftBin .shr k x y = some (.int k (x / 2 ^ y.toNat)) := by
  rw [shiftBin, if_neg (by omega), Nat.min_eq_left (by omega)]
  show some (AV.int k (x.fdiv _)) = _
  rw [Int.fdiv_eq_ediv_of_nonneg _ (Int.le_of_lt (Int.pow_pos (by decide)))]
theorem shr_i64 (x y : Int) (h : 0 ≤ x ∧ 0 ≤ y ∧ y ≤ 64) : shiftBin .shr .i64 x y = some (.int .i64 (x / 2 ^ y.toNat)) := shr_nn .i64 x y h
@[simp] theorem wrap_u8_lit (x : Int) : AV.int .u8 (IntKind.u8.wrap x) = u8 (UInt8.ofInt x) := by
  have h : ((UInt8.ofInt x).toNat : Int) = x % 256 := by
    rw [UInt8.ofInt, UInt8.toNat_ofNat']
    omega
  rw [u8, IntKind.wrap_u8, h]
@[simp] theorem ofBytes_u8 (b : UInt8) (l : List UInt8) : u8 b :: ofBytes l = ofBytes (b :: l) := rfl
theorem ofBytes_1 (b : UInt8) : [u8 b] = ofBytes [b] := rfl
@[simp] theorem conv_i64_u32 (st : St) (r : BitVec 32) : evA (.conv .i64) [u32 r] st = some (.int .i64 r.toNat, st) := by
  show some (AV.int .i64 (IntKind.i64.wrap (r.toNat : Int)), st) = _
  rw [IntWalk.i64_in _ (by have := r.isLt; omega)]
@[simp] theorem conv_u64_u32 (st : St) (r : BitVec 32) : evA (.conv .u64) [u32 r] st = some (.int .u64 r.toNat, st) := by
  show some (AV.int .u64 (IntKind.u64.wrap (r.toNat : Int)), st) = _
  rw [IntWalk.u64_in _ (by have := r.isLt; omega)]
@[simp] theorem conv_u64_u8 (st : St) (x : UInt8) : evA (.conv .u64) [u8 x] st = some (.int .u64 x.toNat, st) := by
  show some (AV.int .u64 (IntKind.u64.wrap (x.toNat : Int)), st) = _
  rw [IntWalk.u64_in _ (by have := x.toNat_lt; omega)]

/-! Bytes put over bytes. -/
def overB (a : List UInt8) (off : Nat) : List UInt8 → List UInt8
  | [] => a
  | c :: cs => overB (a.set off c) (off + 1) cs
theorem setRange_ofBytes : ∀ (b a : List UInt8) (off : Nat), setRange (ofBytes a) off (ofBytes b) = ofBytes (overB a off b)
  | [], a, off => rfl
  | c :: b, a, off => by
    show setRange ((ofBytes a).set off (u8 c)) (off + 1) (ofBytes b) = ofBytes (overB (a.set off c) (off + 1) b)
    rw [← setRange_ofBytes b (a.set off c) (off + 1)]
    congr 1
    simp [ofBytes, List.map_set, u8]
attribute [simp] setRange_ofBytes
@[simp] theorem overB_length : ∀ (b a : List UInt8) (off : Nat), (overB a off b).length = a.length
  | [], a, off => rfl
  | c :: b, a, off => by simp [overB, overB_length b]
theorem overB_eq : ∀ (b a : List UInt8) (off : Nat), off + b.length ≤ a.length → overB a off b = a.take off ++ b ++ a.drop (off + b.length)
  | [], a, off, _ => by simp [overB]
  | c :: b, a, off, h => by
    simp at h
    rw [overB, overB_eq b _ _ (by simp; omega)]
    have h1 : (a.set off c).take (off + 1) = a.take off ++ [c] := by
      apply List.ext_getElem?
      intro j
      rw [List.getElem?_append, List.length_take, Nat.min_eq_left (by omega), List.getElem?_take, List.getElem?_set, List.getElem?_take]
      by_cases h1 : j < off
      · rw [if_pos (by omega), if_neg (by omega), if_pos h1, if_pos h1]
      · rw [if_neg h1]
        by_cases h2 : j = off
        · subst h2
          rw [if_pos (by omega), if_pos rfl, if_pos (by omega)]
          simp
        · rw [if_neg (by omega), List.getElem?_eq_none (by simp; omega)]
    rw [h1, List.drop_set_of_lt (by omega)]
    simp [Nat.add_comm, Nat.add_left_comm]

theorem and_i64 (a b : Nat) (ha : a < 2 ^ 63) (hb : b < 2 ^ 63) : intBin .and .i64 a b = some (.int .i64 (a &&& b : Nat)) := by
  show some (AV.int .i64 (IntKind.i64.wrap (((BitVec.ofInt 64 a &&& BitVec.ofInt 64 b).toNat : Nat) : Int))) = _
  have h : a &&& b < 2 ^ 63 := Nat.and_lt_two_pow _ hb
  rw [BitVec.ofInt_natCast, BitVec.ofInt_natCast, BitVec.toNat_and, BitVec.toNat_ofNat, BitVec.toNat_ofNat, Nat.mod_eq_of_lt (by omega), Nat.mod_eq_of_lt (by omega), IntWalk.i64_in _ (by omega)]
/-- The low bits of what is not negative. -/
theorem and_low (a k : Nat) (m : Int) (hm : m = 2 ^ k - 1) (ha : a < 2 ^ 63) (hk : k < 63) : intBin .and .i64 a m = some (.int .i64 (a % 2 ^ k : Nat)) := by
  have hp : 2 ^ k ≤ 2 ^ 62 := Nat.pow_le_pow_right (by decide) (by omega)
  have h1 : 1 ≤ 2 ^ k := Nat.one_le_two_pow
  have : m = ((2 ^ k - 1 : Nat) : Int) := by rw [hm, Int.natCast_sub h1]; simp
  rw [this, and_i64 _ _ ha (by omega), Nat.and_two_pow_sub_one_eq_mod]
theorem shr_nat (a k : Nat) (y : Int) (hy : y = k) (hk : k ≤ 64) : shiftBin .shr .i64 a y = some (.int .i64 (a / 2 ^ k : Nat)) := by
  rw [shr_i64 _ _ (by omega), hy]
  simp

theorem and_u64 (a b : Nat) (ha : a < 2 ^ 64) (hb : b < 2 ^ 64) : intBin .and .u64 a b = some (.int .u64 (a &&& b : Nat)) := by
  show some (AV.int .u64 (IntKind.u64.wrap (((BitVec.ofInt 64 a &&& BitVec.ofInt 64 b).toNat : Nat) : Int))) = _
  have h : a &&& b < 2 ^ 64 := Nat.and_lt_two_pow _ hb
  rw [BitVec.ofInt_natCast, BitVec.ofInt_natCast, BitVec.toNat_and, BitVec.toNat_ofNat, BitVec.toNat_ofNat, Nat.mod_eq_of_lt (by omega), Nat.mod_eq_of_lt (by omega), IntWalk.u64_in _ (by omega)]
theorem and_lowu (a k : Nat) (m : Int) (hm : m = 2 ^ k - 1) (ha : a < 2 ^ 64) (hk : k < 63) : intBin .and .u64 a m = some (.int .u64 (a % 2 ^ k : Nat)) := by
  have hp : 2 ^ k ≤ 2 ^ 62 := Nat.pow_le_pow_right (by decide) (by omega)
  have h1 : 1 ≤ 2 ^ k := Nat.one_le_two_pow
  have : m = ((2 ^ k - 1 : Nat) : Int) := by rw [hm, Int.natCast_sub h1]; simp
  rw [this, and_u64 _ _ ha (by omega), Nat.and_two_pow_sub_one_eq_mod]
theorem or_u64 (a b : Nat) (ha : a < 2 ^ 64) (hb : b < 2 ^ 64) : intBin .or .u64 a b = some (.int .u64 (a ||| b : Nat)) := by
  show some (AV.int .u64 (IntKind.u64.wrap (((BitVec.ofInt 64 a ||| BitVec.ofInt 64 b).toNat : Nat) : Int))) = _
  have h := Nat.or_lt_two_pow ha hb
  rw [BitVec.ofInt_natCast, BitVec.ofInt_natCast, BitVec.toNat_or, BitVec.toNat_ofNat, BitVec.toNat_ofNat, Nat.mod_eq_of_lt (by omega), Nat.mod_eq_of_lt (by omega), IntWalk.u64_in _ (by omega)]
theorem shl_u64 (x y : Nat) (hy : y ≤ 64) (h : x * 2 ^ y < 2 ^ 64) : shiftBin .shl .u64 x y = some (.int .u64 (x * 2 ^ y : Nat)) := by
  rw [shiftBin, if_neg (by omega)]
  show some (AV.int .u64 (IntKind.u64.wrap ((x : Int) * 2 ^ (min (y : Int).toNat 64)))) = _
  rw [show min (y : Int).toNat 64 = y by omega]
  have : (x : Int) * 2 ^ y = ((x * 2 ^ y : Nat) : Int) := by simp
  rw [this, IntWalk.u64_in _ (by omega)]
theorem shr_u64 (a k : Nat) (y : Int) (hy : y = k) (hk : k ≤ 64) : shiftBin .shr .u64 a y = some (.int .u64 (a / 2 ^ k : Nat)) := by
  rw [shr_nn _ _ _ ⟨by omega, by omega, by show y ≤ 64; omega⟩, hy]
  simp

@[simp] theorem ofBytes_push (a : List UInt8) (b : UInt8) (l : List AV) : ofBytes a ++ (u8 b :: l) = ofBytes (a ++ [b]) ++ l := by
  rw [← ofBytes_append, List.append_assoc]
  rfl

theorem evA_appMs (sz : Option Nat) (t : Tok) (es new : List AV) (st : St) : evA (.appendM sz) [.sl .clip es, .sl t new] st = if allSz (sz.getD 1) es = true ∧ allSz (sz.getD 1) new = true ∧ 0 < new.length ∧ (es ++ new).length ≤ 2147483648 then
    some (.msl st.heap.length 0 (es ++ new).length sz, { st with heap := st.heap ++ [.cells false (flat (normL (es ++ new)))] }) else none := by
  simp only [evA, AOp.cls, evW, srcEs]
  by_cases h : allSz (sz.getD 1) new = true
  · rw [if_pos h]
    rfl
  · rw [if_neg h, if_neg (fun hh => h hh.2.1)]
@[simp] theorem evA_appM (sz : Option Nat) (t : Tok) (new : List AV) (st : St) : evA (.appendM sz) [.sl .clip [], .sl t new] st = if allSz (sz.getD 1) new = true ∧ 0 < new.length ∧ new.length ≤ 2147483648 then
    some (.msl st.heap.length 0 new.length sz, { st with heap := st.heap ++ [.cells false (flat (normL new))] }) else none := by
  rw [evA_appMs]
  have h : allSz (sz.getD 1) [] = true := rfl
  simp only [h, true_and, List.nil_append]

theorem shl1_u8 (q : Nat) (h : q ≤ 8) : shiftBin .shl .u8 1 (q : Int) = some (u8 (UInt8.ofNat (2 ^ q))) := by
  rw [shiftBin, if_neg (by omega)]
  show some (AV.int .u8 (IntKind.u8.wrap ((1 : Int) * 2 ^ (min (q : Int).toNat 8)))) = _
  rw [show min (q : Int).toNat 8 = q by omega, IntKind.wrap_u8, u8, UInt8.toNat_ofNat']
  congr 2
  simp
theorem xor_u8 (e : EqK) (x y : UInt8) : binA .xor e (u8 x) (u8 y) = some (u8 (x ^^^ y)) := by
  show some (AV.int .u8 (IntKind.u8.wrap ((BitVec.ofInt 8 x.toNat ^^^ BitVec.ofInt 8 y.toNat).toNat : Int))) = _
  have hx := x.toNat_lt
  have hy := y.toNat_lt
  rw [BitVec.ofInt_natCast, BitVec.ofInt_natCast, BitVec.toNat_xor, BitVec.toNat_ofNat, BitVec.toNat_ofNat, Nat.mod_eq_of_lt (by omega), Nat.mod_eq_of_lt (by omega), u8, UInt8.toNat_xor]
  have := Nat.xor_lt_two_pow (n := 8) hx hy
  rw [IntWalk.u8_in _ (by omega)]

@[simp] theorem ofBytes_set (a : List UInt8) (i : Nat) (b : UInt8) : (ofBytes a).set i (u8 b) = ofBytes (a.set i b) := by
  simp [ofBytes, List.map_set, u8]

@[simp] theorem evA_boxR (sz : Option Nat) (v : AV) (st : St) : evA (.boxR sz) [v] st = if shaped sz v = true then some (.rptr v, st) else none := by
  simp only [evA, AOp.cls, evP]
  split <;> rfl

@[simp] theorem ite_some_false {c : Prop} [Decidable c] (q : Bool) : (if c then some q else some false) = some (decide c && q) := by
  by_cases h : c <;> simp [h]
@[simp] theorem eqCell_u32 (a b : BitVec 32) : eqCell 0 (u32 a) (u32 b) = some (a == b) := by
  show some ((a.toNat : Int) == (b.toNat : Int)) = _
  rw [Option.some.injEq, Bool.eq_iff_iff]
  simp only [beq_iff_eq]
  exact ⟨fun h => BitVec.eq_of_toNat_eq (by omega), fun h => by rw [h]⟩
@[simp] theorem eqCell_u8 (a b : UInt8) : eqCell 0 (u8 a) (u8 b) = some (a == b) := by
  show some ((a.toNat : Int) == (b.toNat : Int)) = _
  rw [Option.some.injEq, Bool.eq_iff_iff]
  simp only [beq_iff_eq]
  exact ⟨fun h => UInt8.toNat_inj.1 (by omega), fun h => by rw [h]⟩

@[simp] theorem Orc.none_apply (f : Nat) (args : List AV) : Orc.none f args = Option.none := (rfl)

@[simp] theorem nilcA_ptr (l o : Nat) : nilcA (.ptr l o) = some (.ptr l o) := (rfl)
@[simp] theorem nilcA_rptr (v : AV) : nilcA (.rptr v) = some (.rptr v) := (rfl)
@[simp] theorem nilcA_fn (f : Nat) (a b : List AV) : nilcA (.fn (.func f) a b) = some (.fn (.func f) a b) := (rfl)

/-- The end of a call that has turned one block, and forgets what it made. -/
theorem fin_set {st : St} {l : Nat} {b : Blk} {g : List Blk} {vs : List AV} {R : AV → St → Prop} (hb : okBlk st.heap.length st.toks.length b = true) (hv : okL st.heap.length st.toks.length vs = true) (hR : R (one vs) ⟨st.heap.set l b, st.toks⟩) : finishR st vs ⟨st.heap.set l b ++ g, st.toks⟩ R := by
  refine .inr ⟨⟨st.heap.set l b, st.toks⟩, List.prefix_append _ _, List.prefix_refl _, by simp, rfl, fun l' b' h => ?_, by simpa using hv, hR⟩
  simp only [List.length_set]
  rw [List.getElem?_set] at h
  split at h
  · split at h
    · injection h with h
      subst h
      exact .inr hb
    · cases h
  · exact .inl h
/-- What a pointer from outside points at, whatever is made meanwhile. -/
theorem at_facts {h : List Blk} {l : Nat} {b : Blk} (hl : h[l]? = some b) : (∀ g, (h ++ g)[l]? = some b) ∧ (∀ v g, (h.set l v ++ g)[l]? = some v) ∧ (∀ v, (h.set l v)[l]? = some v) ∧ (∀ v g, (h ++ g).set l v = h.set l v ++ g) ∧ (∀ v w g, (h.set l v ++ g).set l w = h.set l w ++ g) := by
  have hlt := (List.getElem?_eq_some_iff.1 hl).1
  refine ⟨fun g => ?_, fun v g => ?_, fun v => List.getElem?_set_self hlt, fun v g => ?_, fun v w g => ?_⟩
  · rw [List.getElem?_append_left hlt, hl]
  · rw [List.getElem?_append_left (by simpa using hlt), List.getElem?_set_self hlt]
  · rw [List.set_append_left _ _ hlt]
  · rw [List.set_append_left _ _ (by simpa using hlt), List.set_set]

@[simp] theorem get_set0 {α : Type} (h g : List α) (l : Nat) (v : α) : (h.set l v ++ g)[h.length]? = g[0]? := by
  rw [List.getElem?_append_right (by simp)]
  simp
@[simp] theorem get_setI {α : Type} (h g : List α) (l k : Nat) (v : α) : (h.set l v ++ g)[h.length + k]? = g[k]? := by
  rw [List.getElem?_append_right (by simp)]
  simp
@[simp] theorem set_set0 {α : Type} (h g : List α) (l : Nat) (v x : α) : (h.set l v ++ g).set h.length x = h.set l v ++ g.set 0 x := by
  rw [List.set_append_right _ _ (by simp)]
  simp
@[simp] theorem set_setI {α : Type} (h g : List α) (l k : Nat) (v x : α) : (h.set l v ++ g).set (h.length + k) x = h.set l v ++ g.set k x := by
  rw [List.set_append_right _ _ (by simp)]
  simp

theorem awC_loopOwnW {P : Program} {O : Orc} {b : ACode} {K : Exit → Env → St → Prop} {env : Env} {st : St} (t sz : Nat) (es : List AV) (h : env t = .sl .clip es) (I : Nat → Env → St → Prop) (n : Nat) (h0 : I n (put env (some t) (.sl (.own st.toks.length) es)) { st with toks := st.toks ++ [(es.length, sz)] })
    (hl : ∀ n env st, I n env st → awC (orc P O) b env st (growK I n K)) : awC (orc P O) (.loop b) env st K := by
  simp only [awC]
  refine ⟨I, n, _, _, .own t sz h, h0, fun n env st hI => ?_⟩
  refine awC_mono (fun f vs st K K' hc hk => orc_mono f vs st K K' hc hk) b env st _ _ (hl n env st hI) fun e v s hh => ?_
  cases e with
  | normal =>
    obtain ⟨n', h1, h3⟩ := hh
    exact ⟨n', v, s, h1, .inr (.refl _ _), h3⟩
  | _ => exact hh

/-! The end of a call that hands back frozen what it hands back, and may have turned what lay there. -/
def finK (st0 : St) (R : AV → St → Prop) (r : Option (List AV × St)) : Prop :=
  match r with
  | some (vs, st) => finishR st0 vs st R
  | none => False
@[simp] theorem finK_some (st0 : St) (R : AV → St → Prop) (vs : List AV) (st : St) : finK st0 R (some (vs, st)) = finishR st0 vs st R := (rfl)
def DoneF (st0 : St) (rs : List RV) (R : AV → St → Prop) : Exit → Env → St → Prop
  | .normal, env, st => rawK (resL env st rs) fun vs => finK st0 R (frzs vs st)
  | .ret, env, st => rawK (resL env st rs) fun vs => finK st0 R (frzs vs st)
  | _, _, _ => False
@[simp] theorem DoneF_normal (st0 : St) (rs : List RV) (R : AV → St → Prop) (env : Env) (st : St) : DoneF st0 rs R .normal env st = rawK (resL env st rs) fun vs => finK st0 R (frzs vs st) := (rfl)
@[simp] theorem DoneF_ret (st0 : St) (rs : List RV) (R : AV → St → Prop) (env : Env) (st : St) : DoneF st0 rs R .ret env st = rawK (resL env st rs) fun vs => finK st0 R (frzs vs st) := (rfl)
theorem frz_of {P : Program} {O : Orc} {f np N : Nat} {ac : ACode} {rs : List RV} {args : List AV} {st : St} {R : AV → St → Prop} (hO : OSound P O) (hF : IsFun P f np N ac rs) (hnp : args.length = np)
    (h : awC (orc P O) ac (env0 args) st (DoneF st rs R)) : ASpec P f args st R := by
  refine aspec_of hF hnp (awC_mono (C' := ASpec P) (fun f vs st K K' hc hk => orc_imp hO hc hk) ac _ st _ _ h fun e env' s hh => ?_)
  have key : ∀ r, rawK r (fun vs => finK st R (frzs vs s)) → ∃ vs, r = some vs ∧ (finish st vs s R ∨ finishR st vs s R) := by
    intro r hr
    unfold rawK at hr
    split at hr
    · rename_i vs
      unfold finK at hr
      split at hr
      · rename_i vs' st' hf
        exact ⟨_, rfl, .inl ⟨vs', st', hf, .inr (.inr hr)⟩⟩
      · exact hr.elim
    · exact hr.elim
  cases e with
  | normal => exact ⟨.inl rfl, key _ hh⟩
  | ret => exact ⟨.inr rfl, key _ hh⟩
  | _ => exact hh.elim
/-- As fin_set, tokens forgotten too. -/
theorem fin_setT {st : St} {l : Nat} {b : Blk} {g : List Blk} {gt : List (Nat × Nat)} {vs : List AV} {R : AV → St → Prop} (hb : okBlk st.heap.length st.toks.length b = true) (hv : okL st.heap.length st.toks.length vs = true) (hR : R (one vs) ⟨st.heap.set l b, st.toks⟩) : finishR st vs ⟨st.heap.set l b ++ g, st.toks ++ gt⟩ R := by
  refine .inr ⟨⟨st.heap.set l b, st.toks⟩, List.prefix_append _ _, List.prefix_append _ _, by simp, rfl, fun l' b' h => ?_, by simpa using hv, hR⟩
  simp only [List.length_set]
  rw [List.getElem?_set] at h
  split at h
  · split at h
    · injection h with h
      subst h
      exact .inr hb
    · cases h
  · exact .inl h

@[simp] theorem gtr_u8 (e : EqK) (x : UInt8) (n : Int) : binA .gtr e (u8 x) (.int .u8 n) = some (.bool (decide (n < (x.toNat : Int)))) := (rfl)
@[simp] theorem lss_u8 (e : EqK) (x : UInt8) (n : Int) : binA .lss e (u8 x) (.int .u8 n) = some (.bool (decide ((x.toNat : Int) < n))) := (rfl)
@[simp] theorem geq_u8 (e : EqK) (x : UInt8) (n : Int) : binA .geq e (u8 x) (.int .u8 n) = some (.bool (decide (n ≤ (x.toNat : Int)))) := (rfl)
@[simp] theorem leq_u8 (e : EqK) (x : UInt8) (n : Int) : binA .leq e (u8 x) (.int .u8 n) = some (.bool (decide ((x.toNat : Int) ≤ n))) := (rfl)

/-! The walk's own lemmas, by short names. -/
theorem LL : (∀ {α : Type} (i : Nat) (l : List α), (l.take i).length = min i l.length) ∧ (∀ {α : Type} (i : Nat) (l : List α), (l.drop i).length = l.length - i) ∧ (∀ {α : Type} (a b : List α), (a ++ b).length = a.length + b.length) ∧
    (∀ {α : Type} (a : α) (l : List α), (a :: l).length = l.length + 1) ∧ (∀ {α : Type}, ([] : List α).length = 0) ∧ (∀ {α β : Type} (f : α → β) (l : List α), (l.map f).length = l.length) := by
  refine ⟨?_, ?_, ?_, ?_, ?_, ?_⟩ <;> intros <;> simp
theorem WW : (∀ (n : Int), -9223372036854775808 ≤ n ∧ n ≤ 9223372036854775807 → IntKind.i64.wrap n = n) ∧ (∀ (x y : Int), 0 ≤ x ∧ x ≤ 9223372036854775807 ∧ 1 ≤ y → IntKind.i64.wrap (x.tdiv y) = x / y) := ⟨IntWalk.i64_in, IntWalk.i64_quo⟩
end Go.Am

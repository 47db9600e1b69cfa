/- The abstract machine's code: what a run through it leaves; that this is so of the model's code. -/
import Derived.Test.YtjceilhmgbdgiaaZAmBase
import Derived.Scope
import Derived.ScopeJumps
import Derived.Control
set_option linter.all false
namespace Go.Am

abbrev Env := Nat → AV

def put (env : Env) (d : Option Nat) (v : AV) : Env :=
  match d with
  | some d => fun t => if t = d then v else env t
  | none => env

def opdV (env : Env) : AOpd → AV
  | .tmp t => env t
  | .const v => v

/-- Is an instruction carried out? -/
def wantedA (g : Option (Nat × Bool)) (env : Env) : Option Bool :=
  match g with
  | none => some true
  | some (t, want) => match env t with
    | .bool b => some (b == want)
    | .tup _ => some false
    | _ => none

/-- An argument that is handed over: a slice that was made is written no more. -/
def frz1 (v : AV) (st : St) : Option (AV × St) :=
  match v with
  | .msl l off len sz => match st.heap[l]? with
    | some (.cells _ vs) => if off + len * sz.getD 1 ≤ vs.length ∧ 0 < sz.getD 1 then some (.sl .any (chunk sz len (vs.drop off)), { st with heap := st.heap.set l (.cells true vs) }) else none
    | _ => none
  | v => some (v.norm, st)

def frzs : List AV → St → Option (List AV × St)
  | [], st => some ([], st)
  | v :: vs, st => (frz1 v st).bind fun (v', st') => (frzs vs st').map fun (vs', st'') => (v' :: vs', st'')

abbrev Calls1 := Nat → List AV → St → (AV → St → Prop) → Prop

def awI (C : Calls1) : List AIns → Env → St → (Env → St → Prop) → Prop
  | [], env, st, K => K env st
  | i :: is, env, st, K =>
    match wantedA i.guard env with
    | some false => awI C is (put env i.dst (.tup [])) st K
    | some true => match i.kind with
      | .prim op => match evA op (i.args.map (opdV env)) st with
        | some (v, st') => awI C is (put env i.dst v) st' K
        | none => False
      | .call f => C f (i.args.map (opdV env)) st fun v st' => awI C is (put env i.dst v) st' K
      | .callV => match i.args.map (opdV env) with
        | .fn (.func f) first caps :: xs => C f (first ++ xs ++ caps) st fun v st' => awI C is (put env i.dst v) st' K
        | _ => False
    | none => False

/-- What a call of a function leaves. -/
def ASpec (P : Program) (f : Nat) (args : List AV) (st : St) (R : AV → St → Prop) : Prop :=
  (∀ (vs : Array Value) (w : World), (callFunc f vs).run P w = .ok (.enter f vs) w) ∧
  ∀ (G : Gh) (w : World) (vs : Array Value), Inv G w st → ListRel G w args vs.toList → Calls P f vs w fun e w' => match e with
    | .outgrown => False
    | .panicked _ => False
    | .returned y => ∃ G' v st', R v st' ∧ Inv G' w' st' ∧ Ext G w G' w' st.heap.length st.toks.length ∧ VRel G' w' v y ∧ st.heap.length ≤ st'.heap.length ∧ st.toks.length ≤ st'.toks.length

theorem ASpec.mono {P : Program} {f : Nat} {args : List AV} {st : St} {R R' : AV → St → Prop} (h : ASpec P f args st R) (hr : ∀ v st', R v st' → R' v st') : ASpec P f args st R' := by
  refine ⟨h.1, fun G w vs hI hv => (h.2 G w vs hI hv).mono fun e w' he => ?_⟩
  cases e with
  | returned y => obtain ⟨G', v, st', q1, q2⟩ := he; exact ⟨G', v, st', hr _ _ q1, q2⟩
  | panicked c => exact he
  | outgrown => exact he

def TRel (G : Gh) (w : World) (env : Env) (tmps : Array Value) : Prop := ∀ t, VRel G w (env t) (tmps.getD t undef)

theorem TRel.put {G G' : Gh} {w w' : World} {env : Env} {tmps : Array Value} (h : TRel G w env tmps) (hv : ∀ v x, VRel G w v x → VRel G' w' v x) {d : Option Nat} {N : Nat} (hd : ∀ t, d = some t → t < N) (hN : N ≤ tmps.size) {v : AV} {y : Value} (hy : VRel G' w' v y) (a : Act) (ha : a.tmps = tmps) :
    TRel G' w' (put env d v) (a.put d y).tmps ∧ (a.put d y).tmps.size = tmps.size ∧ (a.put d y).defers = a.defers := by
  subst ha
  cases d with
  | none => exact ⟨fun t => hv _ _ (h t), rfl, rfl⟩
  | some d =>
    have hlt : d < a.tmps.size := by have := hd d rfl; omega
    refine ⟨fun t => ?_, by simp [Act.put], rfl⟩
    show VRel G' w' (if t = d then v else env t) ((a.tmps.setIfInBounds d y).getD t undef)
    by_cases e : t = d
    · subst e
      rw [if_pos rfl]
      simp [Array.getD, hlt]
      exact hy
    · rw [if_neg e]
      have := hv _ _ (h t)
      have e2 : (a.tmps.setIfInBounds d y).getD t undef = a.tmps.getD t undef := by
        simp only [Array.getD, Array.size_setIfInBounds]
        split
        · rw [Array.getInternal_eq_getElem, Array.getInternal_eq_getElem, Array.getElem_setIfInBounds_ne]; omega
        · rfl
      rw [e2]
      exact this

theorem opds_rel {G : Gh} {w : World} {env : Env} {a : Act} (h : TRel G w env a.tmps) : ∀ {xs : List Operand} {as : List AOpd}, xs.mapM opdA = some as → ListRel G w (as.map (opdV env)) (xs.map a.eval)
  | [], as, hm => by simp at hm; subst hm; exact ⟨rfl, by simp⟩
  | x :: xs, as, hm => by
    simp only [List.mapM_cons, Option.bind_eq_bind] at hm
    cases h1 : opdA x with
    | none => simp [h1] at hm
    | some o =>
      cases h2 : xs.mapM opdA with
      | none => simp [h1, h2] at hm
      | some as' =>
        simp [h1, h2] at hm
        subst hm
        have ih := opds_rel (G := G) (w := w) (env := env) (a := a) h h2
        have hx : VRel G w (opdV env o) (a.eval x) := by
          cases x with
          | tmp t => simp [opdA] at h1; subst h1; exact h t
          | const v =>
            cases hc : constA v with
            | none => simp [opdA, hc] at h1
            | some c => simp [opdA, hc] at h1; subst h1; exact (constA_sound hc).1
          | global g => simp [opdA] at h1
          | func f => simp [opdA] at h1; subst h1; exact .fn _ _ _ _ _ rfl rfl (by simp) (by simp)
        refine ⟨by simp [ih.1], fun i c v hc hv => ?_⟩
        cases i with
        | zero => simp at hc hv; subst hc; subst hv; exact hx
        | succ i => exact ih.2 i c v (by simpa using hc) (by simpa using hv)

theorem wanted_rel {G : Gh} {w : World} {env : Env} {a : Act} (h : TRel G w env a.tmps) {ops : Array Oper} {o : Oper} {g : Option (Nat × Bool)} {b : Bool}
    (hg : match o.guard with | none => g = none | some (j, want) => ∃ t, (ops[j]?).bind (·.dst) = some t ∧ g = some (t, want)) (hw : wantedA g env = some b) : Region.wanted o (yielded ops a.tmps) = b := by
  unfold Region.wanted
  cases ho : o.guard with
  | none =>
    rw [ho] at hg
    simp only [] at hg
    subst hg
    simp [wantedA] at hw
    simpa using hw
  | some p =>
    obtain ⟨j, want⟩ := p
    rw [ho] at hg
    obtain ⟨t, ht, rfl⟩ := hg
    have hv := h t
    simp only [wantedA] at hw
    simp only [yielded, ht, Option.bind_some]
    have hget : ∀ x, a.tmps.getD t undef = x → x ≠ undef → a.tmps[t]? = some x := fun x hx hne => by
      simp only [Array.getD] at hx
      split at hx
      · rename_i hlt; simp [hlt]; simpa using hx
      · exact absurd hx.symm hne
    cases he : env t with
    | bool c =>
      rw [he] at hw hv
      simp at hw
      generalize hx : a.tmps.getD t undef = x at hv
      cases hv
      rw [hget _ hx (by intro e; cases e)]
      rw [← hw]
      cases c <;> cases want <;> rfl
    | tup cs =>
      rw [he] at hw hv
      simp at hw
      generalize hx : a.tmps.getD t undef = x at hv
      cases hv
      have : ∀ b, ¬ a.tmps[t]? = some (.bool b) := fun b e => by
        have : a.tmps.getD t undef = .bool b := by
          have hl := (Array.getElem?_eq_some_iff.1 e).1
          simp only [Array.getD, dif_pos hl]
          exact (Array.getElem?_eq_some_iff.1 e).2
        rw [this] at hx
        cases hx
      subst hw
      split
      · rename_i b hb; exact absurd hb (this b)
      · cases want <;> rfl
    | _ => rw [he] at hw; simp at hw

end Go.Am

/- The abstract machine's code: regions, as the text orders them. -/
namespace Go.Am

theorem frz1_sound {G : Gh} {w : World} {st st' : St} {v v' : AV} {y : Value} (hI : Inv G w st) (hv : VRel G w v y) (h : frz1 v st = some (v', st')) :
    ∃ G', Inv G' w st' ∧ Ext G w G' w st.heap.length st.toks.length ∧ VRel G' w v' y ∧ st'.heap.length = st.heap.length ∧ st'.toks = st.toks := by
  unfold frz1 at h
  split at h
  · rename_i l off len sz
    split at h
    · rename_i fz vs hl
      split at h
      · rename_i hc
        injection h with h
        injection h with e1 e2
        subst e1; subst e2
        cases hv with
        | msl _ _ _ _ B cap z m1 m2 m3 m4 =>
          obtain ⟨B', p1, p2⟩ := hI.blk l _ hl
          rw [m1] at p1
          injection p1 with p1
          subst p1
          have hca := p2.cellsAt
          obtain ⟨i1, e1⟩ := hI.freezeBlk hl m1
          refine ⟨_, i1, e1, ?_, by simp, rfl⟩
          obtain ⟨k1, k2⟩ := chunk_flat (sz := sz) len (vs.drop off) (by simp; omega) (fun _ x hx => by
            obtain ⟨i, hi, rfl⟩ := List.mem_iff_getElem.1 (List.mem_of_mem_drop hx)
            obtain ⟨u, _, v1, v2⟩ := hca i _ (List.getElem?_eq_getElem hi)
            exact scalar_cells v1 v2)
          have hcl : (chunk sz len (vs.drop off)).length = len := chunk_length _ _ _
          have key : ∀ (j : Nat) (c : AV), (flat (chunk sz len (vs.drop off)))[j]? = some c → vs[off + j]? = some c := fun j c hj => by
            rw [k2, List.getElem?_take, List.getElem?_drop] at hj
            split at hj
            · exact hj
            · cases hj
          have := VRel.sl (G := G.addImm fun b o => b = B ∧ o < vs.length) (w := w) .any (chunk sz len (vs.drop off)) B off cap (sz.getD 1) (fun j => (w.cell? ⟨B, off + j, none⟩).getD undef) k1 (by rw [hcl]; exact m2)
            (fun j c hj => by
              have hj' := key j c hj
              obtain ⟨u, u1, u2, u3⟩ := hca _ c hj'
              rw [Nat.zero_add] at u1
              exact ⟨.inr ⟨rfl, (List.getElem?_eq_some_iff.1 hj').1⟩, by simp [u1], by simpa [u1] using u3⟩)
            (fun j c hj => by
              have hj' := key j c hj
              obtain ⟨u, u1, u2, u3⟩ := hca _ c hj'
              rw [Nat.zero_add] at u1
              simpa [u1] using u2.inv hI e1) trivial
          rw [hcl] at this
          exact this
      · cases h
    · cases h
  · injection h with h
    injection h with e1 e2
    subst e1; subst e2
    exact ⟨G, hI, Ext.refl _ _ _ _, hv.norm, rfl, rfl⟩

theorem frzs_sound {w : World} : ∀ {vs : List AV} {ys : List Value} {G : Gh} {st st' : St} {vs' : List AV}, Inv G w st → ListRel G w vs ys → frzs vs st = some (vs', st') →
    ∃ G', Inv G' w st' ∧ Ext G w G' w st.heap.length st.toks.length ∧ ListRel G' w vs' ys ∧ st'.heap.length = st.heap.length ∧ st'.toks = st.toks
  | [], ys, G, st, st', vs', hI, hr, h => by
    simp [frzs] at h
    obtain ⟨rfl, rfl⟩ := h
    exact ⟨G, hI, Ext.refl _ _ _ _, hr, rfl, rfl⟩
  | v :: vs, ys, G, st, st', vs', hI, hr, h => by
    cases ys with
    | nil => have := hr.1; simp at this
    | cons y ys =>
      obtain ⟨x, xs, e, hx, hr'⟩ := hr.cons_inv
      injection e with e1 e2
      subst e1; subst e2
      simp only [frzs] at h
      cases h1 : frz1 v st with
      | none => simp [h1] at h
      | some p =>
        obtain ⟨v1, st1⟩ := p
        cases h2 : frzs vs st1 with
        | none => simp [h1, h2] at h
        | some q =>
          obtain ⟨vs2, st2⟩ := q
          simp [h1, h2] at h
          obtain ⟨rfl, rfl⟩ := h
          obtain ⟨G1, i1, e1, v1', l1, t1⟩ := frz1_sound hI hx h1
          have hr1 : ListRel G1 w vs ys := ⟨hr'.1, fun i c u hc hu => (hr'.2 i c u hc hu).inv hI e1⟩
          obtain ⟨G2, i2, e2, r2, l2, t2⟩ := frzs_sound i1 hr1 h2
          refine ⟨G2, i2, e1.trans e2 (by omega) (by rw [t1]; exact Nat.le_refl _), ?_, by omega, by rw [t2, t1]⟩
          refine ⟨by simp [r2.1], fun i c u hc hu => ?_⟩
          cases i with
          | zero => simp at hc hu; subst hc; subst hu; exact v1'.inv i1 e2
          | succ i => exact r2.2 i c u (by simpa using hc) (by simpa using hu)

/-- What holds behind a piece of code. -/
def Post (G : Gh) (w : World) (n m N : Nat) (K : Exit → Env → St → Prop) : Exit → Act → World → Prop := fun e a' w' =>
  False ∨ (a'.defers = [] ∧ N ≤ a'.tmps.size ∧ (∀ c, e ≠ .panic c) ∧ ∃ G' env' st', K e env' st' ∧ Inv G' w' st' ∧ Ext G w G' w' n m ∧ n ≤ st'.heap.length ∧ m ≤ st'.toks.length ∧ TRel G' w' env' a'.tmps)

theorem Post.ext {G G1 : Gh} {w w1 : World} {n m N : Nat} {K : Exit → Env → St → Prop} (h : Ext G w G1 w1 n m) {e : Exit} {a : Act} {w' : World} (hp : Post G1 w1 n m N K e a w') : Post G w n m N K e a w' := by
  rcases hp with hp | ⟨h1, h2, h3, G', env', st', k1, k2, k3, k4⟩
  · exact .inl hp
  · exact .inr ⟨h1, h2, h3, G', env', st', k1, k2, h.trans k3 (Nat.le_refl _) (Nat.le_refl _), k4⟩

theorem NOk.lens {P : Program} {G : Gh} {w : World} {st : St} {op : AOp} {args : List AV} {v : AV} {st' : St} (h : evA op args st = some (v, st')) : st.heap.length ≤ st'.heap.length ∧ st.toks.length ≤ st'.toks.length := by
  unfold evA at h
  split at h
  · cases hp : evP op args with
    | none => simp [hp] at h
    | some u => simp [hp] at h; rw [← h.2]; exact ⟨Nat.le_refl _, Nat.le_refl _⟩
  · cases hp : evR op args st with
    | none => simp [hp] at h
    | some u => simp [hp] at h; rw [← h.2]; exact ⟨Nat.le_refl _, Nat.le_refl _⟩
  · unfold evW at h
    split at h
    all_goals
      (repeat' split at h) <;> first
        | (cases h; done)
        | (simp at h; rw [← h.2]; simp; done)
  · unfold evT at h
    split at h
    · split at h <;> first | (cases h; done) | skip
      split at h <;> first | (cases h; done) | skip
      split at h <;> first | (cases h; done) | skip
      · simp at h; rw [← h.2]; simp
      · split at h <;> first | (cases h; done) | skip
        split at h <;> first | (cases h; done) | skip
        simp at h; rw [← h.2]; simp
    · cases h

/-- An instruction and the operation that it is compiled from. -/
structure InsOf (P : Program) (N : Nat) (ops : Array Oper) (o : Oper) (i : AIns) : Prop where
  comp : ∃ k xs, compOp P o.op = some (k, xs) ∧ xs.mapM opdA = some i.args ∧ (i.kind = k ∨ ∃ op0 op, Alt o.op op0 op ∧ k = .prim op0 ∧ i.kind = .prim op)
  dst : o.dst = i.dst ∧ ∀ t, i.dst = some t → t < N
  guard : match o.guard with | none => i.guard = none | some (j, want) => ∃ t, (ops[j]?).bind (·.dst) = some t ∧ i.guard = some (t, want)

theorem markK_cases (M : List Nat) (o : Op) (dst : Option Nat) (k : Kind) : markK M o dst k = k ∨ ∃ op0 op, Alt o op0 op ∧ k = .prim op0 ∧ markK M o dst k = .prim op := by
  unfold markK
  split
  · split
    · exact .inr ⟨_, _, .app _ _, rfl, rfl⟩
    · exact .inl rfl
  · split
    · exact .inr ⟨_, _, .box _ _ _, rfl, rfl⟩
    · exact .inl rfl
  · exact .inl rfl

theorem insOf {P : Program} {N : Nat} {M : List Nat} {ops : Array Oper} {o : Oper} {i : AIns} (h : compOper P N M ops o = some i) : InsOf P N ops o i := by
  unfold compOper at h
  cases hc : compOp P o.op with
  | none => simp [hc] at h
  | some kx =>
    obtain ⟨k, xs⟩ := kx
    cases hm : xs.mapM opdA with
    | none => simp [hc, hm] at h
    | some as =>
      simp only [hc, hm, Option.bind_some] at h
      split at h
      · rename_i hd
        have hdst : ∀ t, o.dst = some t → t < N := fun t ht => by rw [ht] at hd; simpa [dstOk] using hd
        split at h
        · rename_i hg
          injection h with h
          subst h
          exact ⟨⟨k, xs, hc, hm, markK_cases M o.op o.dst k⟩, ⟨rfl, hdst⟩, by rw [hg]⟩
        · rename_i j want hg
          cases ht : (ops[j]?).bind (·.dst) with
          | none => simp [ht] at h
          | some t =>
            simp [ht] at h
            subst h
            exact ⟨⟨k, xs, hc, hm, markK_cases M o.op o.dst k⟩, ⟨rfl, hdst⟩, by rw [hg]; exact ⟨t, ht, rfl⟩⟩
      · cases h

theorem comp_call {P : Program} {o : Op} {f : Nat} {xs : List Operand} (h : compOp P o = some (.call f, xs)) : ∃ args argTypes, o = .call { callee := .value (.func f), args, argTypes } ∧ xs = args.toList := by
  unfold compOp at h
  split at h
  · injection h with h
    injection h with h1 h2
    injection h1 with h1
    subst h1
    exact ⟨_, _, rfl, h2.symm⟩
  · injection h with h
    injection h with h1 h2
    cases h1
  · split at h
    · injection h with h
      injection h with h1 h2
      cases h1
    · cases h

theorem comp_callV {P : Program} {o : Op} {xs : List Operand} (h : compOp P o = some (.callV, xs)) : ∃ g args argTypes, o = .call { callee := .value g, args, argTypes } ∧ xs = g :: args.toList := by
  unfold compOp at h
  split at h
  · injection h with h
    injection h with h1 h2
    cases h1
  · injection h with h
    injection h with h1 h2
    exact ⟨_, _, _, rfl, h2.symm⟩
  · split at h
    · injection h with h
      injection h with h1 h2
      cases h1
    · cases h

theorem comp_prim {P : Program} {o : Op} {op : AOp} {xs : List Operand} (h : compOp P o = some (.prim op, xs)) : compP P o = some (.prim op, xs) := by
  unfold compOp at h
  split at h
  · injection h with h
    injection h with h1 h2
    cases h1
  · injection h with h
    injection h with h1 h2
    cases h1
  · split at h
    · rename_i hh
      rw [hh]; exact h
    · cases h

end Go.Am

/- The abstract machine: what nobody names any more is forgotten. -/
namespace Go.Am

/-! Values that name no block and no token from a number on. -/

def tokOk (m : Nat) : Tok → Bool
  | .own k => decide (k < m)
  | _ => true

mutual
def AV.ok (n m : Nat) : AV → Bool
  | .ptr l _ => decide (l < n)
  | .msl l _ _ _ => decide (l < n)
  | .map (some l) => decide (l < n)
  | .map none => true
  | .rptr v => v.ok n m
  | .sl t es => tokOk m t && okL n m es
  | .fn _ xs ys => okL n m xs && okL n m ys
  | .agg cs => okL n m cs
  | .tup cs => okL n m cs
  | .any => true
  | .bool _ => true
  | .int _ _ => true
  | .str _ => true
  | .nilp => true
  | .nilfn => true
  | .ub => true
def okL (n m : Nat) : List AV → Bool
  | [] => true
  | v :: vs => v.ok n m && okL n m vs
end

theorem okL_iff {n m : Nat} : ∀ {l : List AV}, okL n m l = true ↔ ∀ v ∈ l, v.ok n m = true
  | [] => by simp [okL]
  | v :: l => by simp [okL, okL_iff (l := l)]

theorem okL_get {n m : Nat} {l : List AV} (h : okL n m l = true) {i : Nat} {c : AV} (hc : l[i]? = some c) : c.ok n m = true := okL_iff.1 h c (List.mem_of_getElem? hc)

theorem okL_flat {n m : Nat} {es : List AV} (h : okL n m es = true) {j : Nat} {c : AV} (hc : (flat es)[j]? = some c) : c.ok n m = true := by
  have := List.mem_of_getElem? hc
  simp only [flat, List.mem_flatMap] at this
  obtain ⟨e, he, hce⟩ := this
  have := okL_iff.1 h e he
  cases e with
  | agg cs => simp only [AV.ok] at this; exact okL_iff.1 this c hce
  | _ => simp [AV.cells] at hce; subst hce; exact this

theorem ok_cells {n m : Nat} {v : AV} (h : v.ok n m = true) {j : Nat} {c : AV} (hc : v.cells[j]? = some c) : c.ok n m = true := by
  cases v with
  | agg cs => simp only [AV.ok] at h; exact okL_get h hc
  | _ =>
    have := List.mem_of_getElem? hc
    simp [AV.cells] at this
    subst this
    exact h

def Gh.restrict (G : Gh) (n m : Nat) : Gh := { G with
  rho := fun l => if l < n then G.rho l else none
  tl := fun k => if k < m then G.tl k else none
  tau := fun k => if k < m then G.tau k else none }

theorem VRel.restrict {G : Gh} {w : World} {n m : Nat} {v : AV} {x : Value} (h : VRel G w v x) (ho : v.ok n m = true) : VRel (G.restrict n m) w v x := by
  induction h with
  | any v => exact .any v
  | bool b => exact .bool b
  | int k n => exact .int k n
  | str s => exact .str s
  | nilp => exact .nilp
  | ptr l off B hl => exact .ptr l off B (by simp [AV.ok] at ho; simp [Gh.restrict, ho, hl])
  | rptr v b o cv h1 h2 ih => exact .rptr v b o cv h1 (fun j c hj => ih j c hj (ok_cells (by simpa [AV.ok] using ho) hj))
  | slnil t ht =>
    refine .slnil t ?_
    cases t with
    | own k => obtain ⟨p, hp⟩ := ht; simp [AV.ok, tokOk] at ho; exact ⟨p, by simp [Gh.restrict, ho.1, hp]⟩
    | _ => trivial
  | slz t ad ht =>
    refine .slz t ad ?_
    cases t with
    | own k => obtain ⟨p, hp⟩ := ht; simp [AV.ok, tokOk] at ho; exact ⟨p, by simp [Gh.restrict, ho.1, hp]⟩
    | _ => trivial
  | sl t es b o cap sz cv h1 h2 h3 h4 h5 ih =>
    simp only [AV.ok, Bool.and_eq_true] at ho
    refine .sl t es b o cap sz cv h1 h2 h3 (fun j c hj => ih j c hj (okL_flat ho.2 hj)) ?_
    cases t with
    | any => trivial
    | clip => exact h5
    | own k =>
      have hk : k < m := by simpa [tokOk] using ho.1
      obtain ⟨nn, s, q1, q2, q3⟩ := h5
      refine ⟨nn, s, by simp [Gh.restrict, hk, q1], q2, fun e => ?_⟩
      rcases q3 e with q3 | ⟨q3, q4, q5, q6⟩
      · exact .inl q3
      · exact .inr ⟨q3, q4, by simp [Gh.restrict, hk, q5], q6⟩
  | msl l off len sz B cap z h1 h2 h3 h4 => exact .msl l off len sz B cap z (by simp [AV.ok] at ho; simp [Gh.restrict, ho, h1]) h2 h3 h4
  | mapnil => exact .mapnil
  | map l B hl => exact .map l B (by simp [AV.ok] at ho; simp [Gh.restrict, ho, hl])
  | fn f xs ys vs us h1 h2 _ _ ih1 ih2 =>
    simp only [AV.ok, Bool.and_eq_true] at ho
    exact .fn f xs ys vs us h1 h2 (fun i c v hc hv => ih1 i c v hc hv (okL_get ho.1 hc)) (fun i c v hc hv => ih2 i c v hc hv (okL_get ho.2 hc))
  | nilfn => exact .nilfn
  | ub b => exact .ub b
  | agg cs vs h1 h2 _ ih => exact .agg cs vs h1 h2 (fun i c v hc hv => ih i c v hc hv (okL_get (by simpa [AV.ok] using ho) hc))
  | tup cs vs h1 _ ih => exact .tup cs vs h1 (fun i c v hc hv => ih i c v hc hv (okL_get (by simpa [AV.ok] using ho) hc))

theorem VRel.isOk {G : Gh} {w : World} {n m : Nat} (hr : ∀ l B, G.rho l = some B → l < n) (hd : ∀ k p, G.tl k = some p → k < m) {v : AV} {x : Value} (h : VRel G w v x) : v.ok n m = true := by
  have flatOk : ∀ (es : List AV), (∀ (j : Nat) (c : AV), (flat es)[j]? = some c → c.ok n m = true) → okL n m es = true := by
    intro es h
    rw [okL_iff]
    intro e he
    have hmem : ∀ c ∈ e.cells, c.ok n m = true := fun c hc => by
      have : c ∈ flat es := List.mem_flatMap.2 ⟨e, he, hc⟩
      obtain ⟨i, hi, rfl⟩ := List.mem_iff_getElem.1 this
      exact h i _ (List.getElem?_eq_getElem hi)
    cases e with
    | agg cs => simp only [AV.ok]; exact okL_iff.2 hmem
    | _ => exact hmem _ (by simp [AV.cells])
  have listOk : ∀ (cs : List AV) (vs : Array Value), cs.length = vs.size → (∀ (i : Nat) (c : AV) (v : Value), cs[i]? = some c → vs[i]? = some v → c.ok n m = true) → okL n m cs = true := by
    intro cs vs hl h
    rw [okL_iff]
    intro c hc
    obtain ⟨i, hi, rfl⟩ := List.mem_iff_getElem.1 hc
    exact h i _ vs[i] (List.getElem?_eq_getElem hi) (by simp [(by omega : i < vs.size)])
  induction h with
  | ptr l off B hl => simpa [AV.ok] using hr l B hl
  | msl l off len sz B cap z h1 h2 h3 h4 => simpa [AV.ok] using hr l B h1
  | map l B hl => simpa [AV.ok] using hr l B hl
  | rptr v b o cv h1 h2 ih =>
    simp only [AV.ok]
    cases v with
    | agg cs =>
      simp only [AV.ok]
      rw [okL_iff]
      intro c hc
      obtain ⟨i, hi, rfl⟩ := List.mem_iff_getElem.1 hc
      exact ih i _ (by simp [AV.cells, hi])
    | _ => exact ih 0 _ (by simp [AV.cells])
  | slnil t ht =>
    cases t with
    | own k => obtain ⟨p, hp⟩ := ht; simp [AV.ok, tokOk, okL, hd k p hp]
    | _ => simp [AV.ok, tokOk, okL]
  | slz t ad ht =>
    cases t with
    | own k => obtain ⟨p, hp⟩ := ht; simp [AV.ok, tokOk, okL, hd k p hp]
    | _ => simp [AV.ok, tokOk, okL]
  | sl t es b o cap sz cv h1 h2 h3 h4 h5 ih =>
    simp only [AV.ok, Bool.and_eq_true]
    refine ⟨?_, flatOk es ih⟩
    cases t with
    | own k => obtain ⟨nn, s, q1, _⟩ := h5; simpa [tokOk] using hd k _ q1
    | _ => rfl
  | fn f xs ys vs us h1 h2 _ _ ih1 ih2 => simp only [AV.ok, Bool.and_eq_true]; exact ⟨listOk xs vs h1 ih1, listOk ys us h2 ih2⟩
  | agg cs vs h1 h2 _ ih => simp only [AV.ok]; exact listOk cs vs h1 ih
  | tup cs vs h1 _ ih => simp only [AV.ok]; exact listOk cs vs h1 ih
  | _ => rfl

def okBlk (n m : Nat) : Blk → Bool
  | .cells _ vs => okL n m vs
  | .map es => es.all fun e => e.1.ok n m && e.2.ok n m
  | .gone => true

/-- What a call made and nobody names any more is forgotten. -/
theorem Inv.truncate {G0 G1 : Gh} {w0 w1 : World} {st0 st1 st : St} (h0 : Inv G0 w0 st0) (h1 : Inv G1 w1 st1) {Ga : Gh} {wa : World} {n m : Nat} (hE : Ext Ga wa G1 w1 n m) (hn : n ≤ st.heap.length) (hm : m ≤ st.toks.length) (hl0 : st0.heap.length = st.heap.length) (hl1 : st0.toks.length = st.toks.length) {g : List Blk} {gt : List (Nat × Nat)} (hh : st1.heap = st.heap ++ g) (ht : st1.toks = st.toks ++ gt)
    (hok : ∀ (l : Nat) (b : Blk), st.heap[l]? = some b → st0.heap[l]? = some b ∨ okBlk st.heap.length st.toks.length b = true) :
    Inv (G1.restrict st.heap.length st.toks.length) w1 st ∧ Ext Ga wa (G1.restrict st.heap.length st.toks.length) w1 n m := by
  have hrho : ∀ l B, (G1.restrict st.heap.length st.toks.length).rho l = some B → l < st.heap.length ∧ G1.rho l = some B := fun l B hl => by
    simp only [Gh.restrict] at hl
    split at hl
    · exact ⟨by assumption, hl⟩
    · cases hl
  have htau : ∀ k i, (G1.restrict st.heap.length st.toks.length).tau k = some i → k < st.toks.length ∧ G1.tau k = some i := fun k i hk => by
    simp only [Gh.restrict] at hk
    split at hk
    · exact ⟨by assumption, hk⟩
    · cases hk
  constructor
  · exact {
      dom := fun l B hl => (hrho l B hl).1
      img := fun l B hl => h1.img l B (hrho l B hl).2
      inj := fun l l' B hl hl' => h1.inj l l' B (hrho l B hl).2 (hrho l' B hl').2
      blk := fun l b hl => by
        have hlt := (List.getElem?_eq_some_iff.1 hl).1
        obtain ⟨B, q1, q2⟩ := h1.blk l b (by rw [hh, List.getElem?_append_left hlt]; exact hl)
        refine ⟨B, by simp [Gh.restrict, hlt, q1], ?_⟩
        rcases hok l b hl with hold | hb
        · obtain ⟨B0, p1, p2⟩ := h0.blk l b hold
          cases b with
          | cells fz vs =>
            obtain ⟨c0, e0, f0, r1, r2, r3, r4⟩ := p2
            obtain ⟨c, e, f, s1, s2, s3, s4⟩ := q2
            refine ⟨c, e, f, s1, s2, fun i v x hi hx => ⟨(s3 i v x hi hx).1.restrict ?_, (s3 i v x hi hx).2⟩, s4⟩
            have hil := (List.getElem?_eq_some_iff.1 hi).1
            have : i < c0.size := by omega
            have := (r3 i v c0[i] hi (by simp [this])).1.isOk h0.dom h0.tdom'
            rwa [hl0, hl1] at this
          | map es =>
            obtain ⟨cs0, k0, r1, p0, t1, t2, t3, t4, t5⟩ := p2
            obtain ⟨cs, k, s1, p, u1, u2, u3, u4, u5⟩ := q2
            refine ⟨cs, k, s1, p, u1, u2, fun i e c hi hc => ?_, u4, u5⟩
            have hmem : e ∈ p0 := (t1.trans u1.symm).mem_iff.2 (List.mem_of_getElem? hi)
            obtain ⟨j, hj, rfl⟩ := List.mem_iff_getElem.1 hmem
            have hjc : j < cs0.size := by omega
            have hv := t3 j _ cs0[j] (List.getElem?_eq_getElem hj) (by simp [hjc])
            have o1 := hv.1.isOk h0.dom h0.tdom'
            have o2 := hv.2.isOk h0.dom h0.tdom'
            rw [hl0, hl1] at o1 o2
            exact ⟨(u3 i _ c hi hc).1.restrict o1, (u3 i _ c hi hc).2.restrict o2⟩
          | gone => trivial
        · cases b with
          | cells fz vs =>
            obtain ⟨c, e, f, s1, s2, s3, s4⟩ := q2
            exact ⟨c, e, f, s1, s2, fun i v x hi hx => ⟨(s3 i v x hi hx).1.restrict (okL_get (by simpa [okBlk] using hb) hi), (s3 i v x hi hx).2⟩, s4⟩
          | map es =>
            obtain ⟨cs, k, s1, p, u1, u2, u3, u4, u5⟩ := q2
            refine ⟨cs, k, s1, p, u1, u2, fun i e c hi hc => ?_, u4, u5⟩
            have hmem : e ∈ es := u1.mem_iff.1 (List.mem_of_getElem? hi)
            simp only [okBlk, List.all_eq_true, Bool.and_eq_true] at hb
            exact ⟨(u3 i _ c hi hc).1.restrict (hb e hmem).1, (u3 i _ c hi hc).2.restrict (hb e hmem).2⟩
          | gone => trivial
      tl := fun k => by
        simp only [Gh.restrict]
        split
        · rename_i hk
          rw [h1.tl, ht, List.getElem?_append_left hk]
        · rename_i hk
          rw [List.getElem?_eq_none (Nat.le_of_not_lt hk)]
      tdom := fun k i hk => by
        obtain ⟨q1, q2⟩ := htau k i hk
        obtain ⟨a1, a2, a3, a4, a5⟩ := h1.tdom k i q2
        refine ⟨q1, a2, a3, a4, fun l hl => ?_⟩
        obtain ⟨r1, r2⟩ := hrho l _ hl
        obtain ⟨vs, hvs⟩ := a5 l r2
        rw [hh, List.getElem?_append_left r1] at hvs
        exact ⟨vs, hvs⟩
      tinj := fun k k' i i' hk hk' => h1.tinj k k' i i' (htau k i hk).2 (htau k' i' hk').2
      cells := h1.cells
      below := h1.below
      bsz := h1.bsz }
  · exact {
      rho := fun l hl => by simp only [Gh.restrict, if_pos (Nat.lt_of_lt_of_le hl hn)]; exact hE.rho l hl
      imm := hE.imm
      cell := hE.cell
      size := hE.size
      tok := fun k p hk hp => by
        obtain ⟨p', q1, q2, q3, q4⟩ := hE.tok k p hk hp
        have hk' := Nat.lt_of_lt_of_le hk hm
        exact ⟨p', by simp only [Gh.restrict, if_pos hk']; exact q1, q2, q3, fun e => by simp only [Gh.restrict, if_pos hk']; exact q4 e⟩
      heap := hE.heap
      base := hE.base
      w0 := hE.w0
      immB := hE.immB }


end Go.Am

/- Regions whose order is open: the orders that the model may draw. -/
namespace Go.Am

theorem nodup_sub_erase {a : Nat} {l1 l2 : List Nat} (hn : (a :: l1).Nodup) (hs : ∀ x ∈ a :: l1, x ∈ l2) : ∀ x ∈ l1, x ∈ l2.erase a := by
  intro x hx
  have hne : x ≠ a := fun e => by subst e; exact (List.nodup_cons.1 hn).1 hx
  exact (List.mem_erase_of_ne hne).2 (hs x (by simp [hx]))

theorem nodup_sub_len : ∀ {l1 l2 : List Nat}, l1.Nodup → (∀ x ∈ l1, x ∈ l2) → l1.length ≤ l2.length
  | [], _, _, _ => Nat.zero_le _
  | a :: l1, l2, hn, hs => by
    have ih := nodup_sub_len (List.nodup_cons.1 hn).2 (nodup_sub_erase hn hs)
    have ha : a ∈ l2 := hs a (by simp)
    rw [List.length_erase_of_mem ha] at ih
    have := List.length_pos_of_mem ha
    simp only [List.length_cons]
    omega

theorem nodup_sub_perm : ∀ {l1 l2 : List Nat}, l1.Nodup → (∀ x ∈ l1, x ∈ l2) → l2.length ≤ l1.length → l1.Perm l2
  | [], l2, _, _, hl => by
    have : l2 = [] := by simpa using hl
    subst this
    exact .refl _
  | a :: l1, l2, hn, hs, hl => by
    have ha : a ∈ l2 := hs a (by simp)
    have ih := nodup_sub_perm (List.nodup_cons.1 hn).2 (nodup_sub_erase hn hs) (by rw [List.length_erase_of_mem ha]; simp at hl; omega)
    exact (ih.cons a).trans (List.perm_cons_erase ha).symm

/-- An order of the places 0 .. in which each stands behind all that it waits for. -/
structure Valid (deps : List (List Nat)) (l : List Nat) : Prop where
  perm : l.Perm (List.range deps.length)
  before : ∀ (p i j : Nat) (ds : List Nat), l[p]? = some i → deps[i]? = some ds → j ∈ ds → ∃ q, q < p ∧ l[q]? = some j

def depsOf (ops : Array Oper) : List (List Nat) := ops.toList.map fun o => (o.after.toList.filter fun e => Region.binds .any e).map (·.on)

def depsBack (ops : Array Oper) : Bool := ops.toList.zipIdx.all fun (o, i) => o.after.toList.all fun e => !Region.binds .any e || decide (e.on < i)

/-- What 'linearise' keeps while it lists. -/
structure Lin (ops : Array Oper) (listed : Array Bool) (acc : List Nat) : Prop where
  size : listed.size = ops.size
  nodup : acc.Nodup
  mem : ∀ i, i ∈ acc ↔ listed[i]? = some true
  before : ∀ (p i j : Nat) (ds : List Nat), acc.reverse[p]? = some i → (depsOf ops)[i]? = some ds → j ∈ ds → ∃ q, q < p ∧ acc.reverse[q]? = some j

def ready (ops : Array Oper) (listed : Array Bool) : List Nat :=
  (List.range ops.size).filter fun i => !listed.getD i true && ((ops[i]?).map (·.after.all fun e => !Region.binds .any e || listed.getD e.on false)).getD false

theorem ready_mem {ops : Array Oper} {listed : Array Bool} {i : Nat} (h : i ∈ ready ops listed) : listed[i]? = some false ∧ ∃ ds, (depsOf ops)[i]? = some ds ∧ ∀ j ∈ ds, listed[j]? = some true := by
  simp only [ready, List.mem_filter, List.mem_range, Bool.and_eq_true, Bool.not_eq_true'] at h
  obtain ⟨h1, h2, h3⟩ := h
  have hl : listed[i]? = some false := by
    simp only [Array.getD] at h2
    split at h2
    · rename_i hlt; simp [hlt]; simpa using h2
    · cases h2
  refine ⟨hl, _, by simp only [depsOf, List.getElem?_map]; rw [Array.getElem?_toList, Array.getElem?_eq_getElem h1]; rfl, fun j hj => ?_⟩
  simp only [List.mem_map, List.mem_filter] at hj
  obtain ⟨e, ⟨he, hb⟩, rfl⟩ := hj
  rw [Array.getElem?_eq_getElem h1] at h3
  simp only [Option.map_some, Option.getD_some, Array.all_eq_true] at h3
  obtain ⟨k, hk, rfl⟩ := List.mem_iff_getElem.1 he
  have := h3 k (by simpa using hk)
  simp only [Array.getElem_toList] at hb ⊢
  simp only [hb, Bool.not_true, Bool.false_or, Array.getD] at this
  split at this
  · rename_i hlt; simp [hlt]; simpa using this
  · cases this

theorem ready_some {ops : Array Oper} {listed : Array Bool} (hsize : listed.size = ops.size) (hb : depsBack ops = true) {i : Nat} (hi : listed[i]? = some false) (hmin : ∀ j, j < i → listed[j]? = some true) : i ∈ ready ops listed := by
  have hlt : i < ops.size := by rw [← hsize]; exact (Array.getElem?_eq_some_iff.1 hi).1
  simp only [ready, List.mem_filter, List.mem_range, Bool.and_eq_true, Bool.not_eq_true']
  refine ⟨hlt, ?_, ?_⟩
  · simp only [Array.getD]
    have := (Array.getElem?_eq_some_iff.1 hi)
    rw [dif_pos this.1]
    simpa using this.2
  · rw [Array.getElem?_eq_getElem hlt]
    simp only [Option.map_some, Option.getD_some, Array.all_eq_true]
    intro k hk
    simp only [depsBack, List.all_eq_true] at hb
    have := hb (ops[i], i) (by
      rw [List.mem_zipIdx_iff_getElem?]
      simp [hlt])
    simp only [List.all_eq_true] at this
    have := this ops[i].after[k] (by simp)
    simp only [Bool.or_eq_true, Bool.not_eq_true', decide_eq_true_eq] at this
    simp only [Bool.or_eq_true, Bool.not_eq_true']
    rcases this with h | h
    · exact .inl h
    · right
      have := hmin _ h
      simp only [Array.getD]
      have hh := (Array.getElem?_eq_some_iff.1 this)
      rw [dif_pos hh.1]
      simpa using hh.2

theorem lin_step {ops : Array Oper} {listed : Array Bool} {acc : List Nat} (h : Lin ops listed acc) {i : Nat} (hi : i ∈ ready ops listed) : Lin ops (listed.setIfInBounds i true) (i :: acc) := by
  obtain ⟨h1, ds, h2, h3⟩ := ready_mem hi
  have hlt := (Array.getElem?_eq_some_iff.1 h1).1
  have hni : i ∉ acc := fun hm => by have := (h.mem i).1 hm; rw [h1] at this; cases this
  refine ⟨by simpa using h.size, List.nodup_cons.2 ⟨hni, h.nodup⟩, fun j => ?_, fun p k j ds' hp hk hj => ?_⟩
  · rw [List.mem_cons, h.mem j, Array.getElem?_setIfInBounds]
    by_cases e : i = j
    · subst e; simp [hlt]
    · rw [if_neg e]; simp [Ne.symm e]
  · rw [List.reverse_cons] at hp ⊢
    rcases Nat.lt_or_ge p acc.reverse.length with hpl | hpg
    · rw [List.getElem?_append_left hpl] at hp
      obtain ⟨q, q1, q2⟩ := h.before p k j ds' hp hk hj
      exact ⟨q, q1, by rw [List.getElem?_append_left (by omega)]; exact q2⟩
    · rw [List.getElem?_append_right hpg] at hp
      have hp0 : p - acc.reverse.length = 0 := by
        rcases Nat.eq_zero_or_pos (p - acc.reverse.length) with h | h
        · exact h
        · rw [List.getElem?_eq_none (by simp at h ⊢; omega)] at hp; cases hp
      rw [hp0] at hp
      simp at hp
      subst hp
      rw [h2] at hk
      injection hk with hk
      subst hk
      have hm : j ∈ acc.reverse := List.mem_reverse.2 ((h.mem j).2 (h3 j hj))
      obtain ⟨q, hq, hq'⟩ := List.mem_iff_getElem.1 hm
      exact ⟨q, by omega, by rw [List.getElem?_append_left hq, List.getElem?_eq_getElem hq, hq']⟩

theorem lin_ready {ops : Array Oper} {listed : Array Bool} {acc : List Nat} (h : Lin ops listed acc) (hb : depsBack ops = true) (hlen : acc.length < ops.size) : ready ops listed ≠ [] := by
  -- the least place that is not listed is ready
  have hex : ∃ i : Nat, listed[i]? = some false := by
    rcases Classical.em (∃ i : Nat, listed[i]? = some false) with h' | h'
    · exact h'
    · exfalso
      have hall : ∀ i, i < ops.size → i ∈ acc := fun i hi => by
        rw [h.mem]
        have hl : i < listed.size := by rw [h.size]; exact hi
        cases hv : listed[i] with
        | true => simp [hl, hv]
        | false => exact absurd ⟨i, by simp [hl, hv]⟩ h'
      have : (List.range ops.size).length ≤ acc.length := nodup_sub_len List.nodup_range (fun i hi => hall i (List.mem_range.1 hi))
      simp at this
      omega
  obtain ⟨i, hi⟩ := hex
  have hmin : ∃ i : Nat, listed[i]? = some false ∧ ∀ j, j < i → listed[j]? = some true := by
    induction i using Nat.strongRecOn with
    | _ i ih =>
      by_cases hj : ∃ j, j < i ∧ listed[j]? = some false
      · obtain ⟨j, hj1, hj2⟩ := hj
        exact ih j hj1 hj2
      · refine ⟨i, hi, fun j hj1 => ?_⟩
        have hlt : j < listed.size := by have := (Array.getElem?_eq_some_iff.1 hi).1; omega
        cases hv : listed[j] with
        | true => simp [hlt, hv]
        | false => exact absurd ⟨j, hj1, by simp [hlt, hv]⟩ hj
  obtain ⟨i, hi1, hi2⟩ := hmin
  intro he
  have := ready_some h.size hb hi1 hi2
  rw [he] at this
  cases this

theorem lin_go {ops : Array Oper} (hb : depsBack ops = true) : ∀ (fuel t : Nat) (listed : Array Bool) (acc : List Nat), Lin ops listed acc → fuel + acc.length = ops.size → ∃ listed' acc', Region.linearise.go .any ops fuel t listed acc = acc'.reverse ∧ Lin ops listed' acc' ∧ acc'.length = ops.size
  | 0, t, listed, acc, h, hl => ⟨listed, acc, rfl, h, by omega⟩
  | fuel + 1, t, listed, acc, h, hl => by
    have hr := lin_ready h hb (by omega)
    have hrs : (List.range ops.size).filter (fun i => !listed.getD i true && ((ops[i]?).map (·.after.all fun e => !Region.binds .any e || listed.getD e.on false)).getD false) = ready ops listed := rfl
    simp only [Region.linearise.go, hrs]
    have hlt : t % (ready ops listed).length < (ready ops listed).length := Nat.mod_lt _ (List.length_pos_iff.2 hr)
    rw [List.getElem?_eq_getElem hlt]
    simp only []
    exact lin_go hb fuel _ _ _ (lin_step h (List.getElem_mem hlt)) (by simp; omega)

theorem schedule_valid {ops : Array Oper} (hb : depsBack ops = true) (t : Nat) : Valid (depsOf ops) (Region.schedule true ops t) := by
  have h0 : Lin ops (Array.replicate ops.size false) [] := ⟨by simp, List.nodup_nil, fun i => by simp [Array.getElem?_replicate], fun p i j ds hp => by simp at hp⟩
  obtain ⟨listed', acc', h1, h2, h3⟩ := lin_go hb ops.size t _ [] h0 (by simp)
  have hs : Region.schedule true ops t = acc'.reverse := by
    simp only [Region.schedule, Bool.true_or, if_true, Region.linearise]
    exact h1
  rw [hs]
  have hd : (depsOf ops).length = ops.size := by simp [depsOf]
  refine ⟨?_, h2.before⟩
  rw [hd]
  have hsub : acc' ⊆ List.range ops.size := fun i hi => by
    have := (h2.mem i).1 hi
    have := (Array.getElem?_eq_some_iff.1 this).1
    rw [h2.size] at this
    exact List.mem_range.2 this
  have hp : acc'.Perm (List.range ops.size) := nodup_sub_perm h2.nodup hsub (by simp [h3])
  exact (List.reverse_perm acc').trans hp

end Go.Am

/- The abstract machine's code: a region's instructions, in whatever order they are told; calls; the rest of the code. -/
namespace Go.Am

/-- Instructions and the places of the operations that they are compiled from. -/
def Insts (P : Program) (N : Nat) (ops : Array Oper) (idxs : List Nat) (is : List AIns) : Prop :=
  idxs.length = is.length ∧ ∀ (n idx : Nat) (i : AIns), idxs[n]? = some idx → is[n]? = some i → ∃ o, ops[idx]? = some o ∧ InsOf P N ops o i

/-- Where a run stands: the relation, and that it has come from the start by what is allowed. -/
structure At (G0 : Gh) (w0 : World) (n m N : Nat) (G : Gh) (w : World) (env : Env) (st : St) (a : Act) : Prop where
  inv : Inv G w st
  ext : Ext G0 w0 G w n m
  hn : n ≤ st.heap.length
  hm : m ≤ st.toks.length
  rel : TRel G w env a.tmps
  size : N ≤ a.tmps.size
  defers : a.defers = []

theorem At.post {G0 : Gh} {w0 : World} {n m N : Nat} {G : Gh} {w : World} {env : Env} {st : St} {a : Act} (h : At G0 w0 n m N G w env st a) {K : Exit → Env → St → Prop} {e : Exit} (he : ∀ c, e ≠ .panic c) (hk : K e env st) : Post G0 w0 n m N K e a w :=
  .inr ⟨h.defers, h.size, he, G, env, st, hk, h.inv, h.ext, h.hn, h.hm, h.rel⟩

theorem At.step {G0 : Gh} {w0 : World} {n m N : Nat} {G : Gh} {w : World} {env : Env} {st : St} {a : Act} (h : At G0 w0 n m N G w env st a) {G' : Gh} {w' : World} {st' : St} (hI : Inv G' w' st') (hE : Ext G w G' w' st.heap.length st.toks.length)
    (h1 : st.heap.length ≤ st'.heap.length) (h2 : st.toks.length ≤ st'.toks.length) {d : Option Nat} (hd : ∀ t, d = some t → t < N) {v : AV} {y : Value} (hy : VRel G' w' v y) : At G0 w0 n m N G' w' (put env d v) st' (a.put d y) := by
  obtain ⟨q1, q2, q3⟩ := h.rel.put (G' := G') (w' := w') (fun v x hv => hv.inv h.inv hE) hd h.size hy a rfl
  exact ⟨hI, h.ext.trans hE h.hn h.hm, Nat.le_trans h.hn h1, Nat.le_trans h.hm h2, q1, by rw [q2]; exact h.size, by rw [q3]; exact h.defers⟩

theorem resolve_value {P : Program} {w : World} {ρ : Operand → Value} {f : Operand} {args : Array Operand} {argTypes : Array TypeId} {ty : TypeId} {fn : Fn} {first caps : Array Value} (h : ρ f = .func fn first caps) :
    (resolve ρ { callee := .value f, args, argTypes } ty).run P w = .ok { target := .fn fn caps, args := first ++ args.map ρ } w := by
  simp [resolve, Deferred.ofValue, h]

/-- What is handed over may be frozen first. -/
theorem aspec_frz {P : Program} {f : Nat} {args vs : List AV} {st st1 : St} {R : AV → St → Prop} (hf : frzs args st = some (vs, st1)) (h : ASpec P f vs st1 R) : ASpec P f args st R := by
  refine ⟨h.1, fun G w ys hI hv => ?_⟩
  obtain ⟨G1, i1, e1, r1, l1, t1⟩ := frzs_sound hI hv hf
  refine (h.2 G1 w ys i1 r1).mono fun e w' he => ?_
  cases e with
  | outgrown => exact he
  | panicked c => exact he
  | returned y =>
    obtain ⟨G', v, st', k1, k2, k3, k4, k5, k6⟩ := he
    exact ⟨G', v, st', k1, k2, e1.trans k3 (by omega) (by rw [t1]; exact Nat.le_refl _), k4, by omega, by rw [t1] at k6; exact k6⟩

theorem awI_sound {P : Program} {N : Nat} {ops : Array Oper} {G0 : Gh} {w0 : World} {n m : Nat} {K : Env → St → Prop} {Q : Exit → Act → World → Prop}
    (hQ : ∀ G w env st a, At G0 w0 n m N G w env st a → K env st → Q .normal a w) : ∀ (is : List AIns) (idxs : List Nat) (G : Gh) (w : World) (env : Env) (st : St) (a : Act), Insts P N ops idxs is → At G0 w0 n m N G w env st a → awI (ASpec P) is env st K → wpOps P ops Q idxs a w
  | [], idxs, G, w, env, st, a, hi, hat, h => by
    have : idxs = [] := by have := hi.1; simpa using this
    subst this
    exact hQ _ _ _ _ _ hat h
  | i :: is, idxs, G, w, env, st, a, hi, hat, h => by
    cases idxs with
    | nil => have := hi.1; simp at this
    | cons idx idxs =>
      obtain ⟨o, ho, hio⟩ := hi.2 0 idx i rfl rfl
      have hi' : Insts P N ops idxs is := ⟨by have := hi.1; simpa using this, fun n idx i h1 h2 => hi.2 (n + 1) idx i (by simpa using h1) (by simpa using h2)⟩
      have ih := awI_sound (P := P) (N := N) (ops := ops) hQ is idxs
      simp only [wpOps, ho]
      simp only [awI] at h
      cases hw : wantedA i.guard env with
      | none => simp [hw] at h
      | some b =>
        have hwant := wanted_rel hat.rel hio.guard hw
        rw [hw] at h
        rw [hwant]
        cases b with
        | false =>
          simp only [Bool.false_eq_true, if_false] at h ⊢
          rw [hio.dst.1]
          exact ih G w _ st _ hi' (hat.step hat.inv (Ext.refl _ _ _ _) (Nat.le_refl _) (Nat.le_refl _) hio.dst.2 (.tup [] #[] rfl (by simp))) h
        | true =>
          simp only [if_true] at h ⊢
          refine .inl ?_
          obtain ⟨k0, xs, hc, hm, hk0⟩ := hio.comp
          have hargs := opds_rel hat.rel hm
          rcases hk0 with rfl | ⟨op0, opM, hocl, rfl, hkM⟩
          case inr =>
            rw [hkM] at h
            simp only [] at h
            cases he : evA opM (i.args.map (opdV env)) st with
            | none => simp [he] at h
            | some p =>
              obtain ⟨v, st'⟩ := p
              rw [he] at h
              simp only [] at h
              obtain ⟨nx, y, w', G', r1, r2, r3, r4, r5⟩ := op_soundM (o := o) hat.inv hocl (comp_prim hc) hargs he
              obtain ⟨l1, l2⟩ := NOk.lens (P := P) (G := G) (w := w) he
              have hnext := ih G' w' (put env i.dst v) st' (a.put o.dst y) hi' (by rw [hio.dst.1]; exact hat.step r3 r4 l1 l2 hio.dst.2 r5) h
              unfold Oper.wp
              rw [r1]
              rcases r2 with rfl | ⟨rfl, rfl⟩
              · exact hnext
              · exact hnext
          cases hk : i.kind with
          | prim op =>
            rw [hk] at h hc
            simp only [] at h
            cases he : evA op (i.args.map (opdV env)) st with
            | none => simp [he] at h
            | some p =>
              obtain ⟨v, st'⟩ := p
              rw [he] at h
              simp only [] at h
              obtain ⟨nx, y, w', G', r1, r2, r3, r4, r5⟩ := op_sound (o := o) (fun _ => rfl) hat.inv (comp_prim hc) hargs he
              obtain ⟨l1, l2⟩ := NOk.lens (P := P) (G := G) (w := w) he
              have hnext := ih G' w' (put env i.dst v) st' (a.put o.dst y) hi' (by rw [hio.dst.1]; exact hat.step r3 r4 l1 l2 hio.dst.2 r5) h
              unfold Oper.wp
              rw [r1]
              rcases r2 with rfl | ⟨rfl, rfl⟩
              · exact hnext
              · exact hnext
          | call f =>
            rw [hk] at h hc
            simp only [] at h
            obtain ⟨args, argTypes, hop, rfl⟩ := comp_call hc
            have hspec := h.2 G w (args.map a.eval) hat.inv (by simpa using hargs)
            unfold Oper.wp execOp
            rw [hop]
            simp only [Sem.run_bind, resolve_value (P := P) (w := w) (args := args) (argTypes := argTypes) (ty := o.type) (show a.eval (.func f) = .func (.func f) #[] #[] from rfl), Result.andThen, invoke, h.1, Array.empty_append, Array.append_empty]
            rw [Oper.upon_enter]
            refine hspec.mono fun e w' he => ?_
            cases e with
            | outgrown => exact he.elim
            | panicked c => exact he.elim
            | returned y =>
              obtain ⟨G', v, st', k1, k2, k3, k4, k5, k6⟩ := he
              refine ih G' w' _ st' _ hi' ?_ k1
              rw [hio.dst.1]
              exact hat.step k2 k3 k5 k6 hio.dst.2 k4
          | callV =>
            rw [hk] at h hc
            simp only [] at h
            obtain ⟨g, args, argTypes, hop, rfl⟩ := comp_callV hc
            obtain ⟨x, xs', hx0, hx1, hx2⟩ := hargs.cons_inv
            rw [hx0] at h
            cases x with
            | fn fnv first caps =>
              cases fnv with
              | func f =>
                simp only [] at h
                generalize hgv : a.eval g = gv at hx1
                cases hx1 with
                | fn _ _ _ us cs u1 u2 u3 u4 =>
                  have hall : ListRel G w (first ++ xs' ++ caps) (us ++ args.map a.eval ++ cs).toList := by
                    have hl2 := hx2.1
                    simp only [List.length_map, Array.length_toList] at hl2
                    refine ⟨by simp [u1, u2, hl2], fun j c v hc hv => ?_⟩
                    simp only [Array.toList_append] at hv
                    rw [List.append_assoc] at hc hv
                    rcases Nat.lt_or_ge j first.length with hlt | hge
                    · rw [List.getElem?_append_left hlt] at hc
                      rw [List.getElem?_append_left (by simpa [← u1] using hlt)] at hv
                      exact u3 j c v hc (by simpa using hv)
                    · rw [List.getElem?_append_right hge] at hc
                      rw [List.getElem?_append_right (by simpa [← u1] using hge)] at hv
                      have e1 : us.toList.length = first.length := by simp [u1]
                      rw [e1] at hv
                      rcases Nat.lt_or_ge (j - first.length) xs'.length with hlt2 | hge2
                      · rw [List.getElem?_append_left hlt2] at hc
                        rw [List.getElem?_append_left (by simpa [← hl2] using hlt2)] at hv
                        exact hx2.2 _ c v hc (by simpa using hv)
                      · rw [List.getElem?_append_right hge2] at hc
                        rw [List.getElem?_append_right (by simpa [← hl2] using hge2)] at hv
                        have e2 : (args.map a.eval).toList.length = xs'.length := by simp [hl2]
                        rw [e2] at hv
                        exact u4 _ c v hc (by simpa using hv)
                  have hspec := h.2 G w _ hat.inv hall
                  unfold Oper.wp execOp
                  rw [hop]
                  simp only [Sem.run_bind, resolve_value (P := P) (w := w) (args := args) (argTypes := argTypes) (ty := o.type) hgv, Result.andThen, invoke, h.1]
                  rw [Oper.upon_enter]
                  refine hspec.mono fun e w' he => ?_
                  cases e with
                  | outgrown => exact he.elim
                  | panicked c => exact he.elim
                  | returned y =>
                    obtain ⟨G', v, st', k1, k2, k3, k4, k5, k6⟩ := he
                    refine ih G' w' _ st' _ hi' ?_ k1
                    rw [hio.dst.1]
                    exact hat.step k2 k3 k5 k6 hio.dst.2 k4
              | _ => simp at h
            | _ => simp at h


/-! Code. -/

def compIns (P : Program) (N : Nat) (M : List Nat) (ops : Array Oper) : Option (List AIns) := ops.toList.mapM (compOper P N M ops)

/-- The first label that a code jumps to. -/
def gotoA : ACode → Option Nat
  | .seq a b => (gotoA a).orElse fun _ => gotoA b
  | .cond _ a b => (gotoA a).orElse fun _ => gotoA b
  | .block _ b => gotoA b
  | .loop b => gotoA b
  | .goto l => some l
  | _ => none

/-- What follows a label. -/
def findA : ACode → Nat → Option ACode
  | .seq a b, l => match findA a l with
    | some r => some (.seq r b)
    | none => findA b l
  | .label l', l => if l' == l then some .skip else none
  | _, _ => none

def compCode (P : Program) (N : Nat) (M : List Nat) : Code → Option ACode
  | .skip => some .skip
  | .region _ ops draw => (compIns P N M ops).bind fun is =>
    if draw then if depsBack ops && P.follows .mixedOrders then some (.region is (some (depsOf ops))) else none
    else some (.region is none)
  | .seq a b => (compCode P N M a).bind fun a' => (compCode P N M b).map fun b' => .seq a' b'
  | .cond c a b => (opdA c).bind fun c' => (compCode P N M a).bind fun a' => (compCode P N M b).map fun b' => .cond c' a' b'
  | .block id b => (compCode P N M b).map (.block id)
  | .loop b => (compCode P N M b).map .loop
  | .exit id => some (.exit id)
  | .ret => some .ret
  | .label l => some (.label l)
  | .goto l => some (.goto l)
  | .scope b => (compCode P N M b).map fun b' => match gotoA b' with
    | none => .scope b'
    | some l => match findA b' l with
      | some r => .scopeJ b' l r
      | none => .scope b'
  | _ => none

/-- A region whose order is open: whatever order is drawn. -/
def awD (C : Calls1) (is : List AIns) (deps : List (List Nat)) (env : Env) (st : St) (K : Env → St → Prop) : Prop :=
  ∀ l, Valid deps l → awI C (l.map fun i => is.getD i default) env st K

/-- The slots that are kept; of the others nothing is known any more. -/
def keepEnv (L : List Nat) (env : Env) : Env := fun t => if t ∈ L then env t else .any

/-- Behind a round: what it made is forgotten. -/
def Trunc (st0 : St) (env : Env) (st : St) (L : List Nat) (st' : St) : Prop :=
  (∀ t ∈ L, (env t).ok st'.heap.length st'.toks.length = true) ∧ st'.heap <+: st.heap ∧ st'.toks <+: st.toks ∧ st0.heap.length = st'.heap.length ∧ st0.toks.length = st'.toks.length ∧
    ∀ (l : Nat) (b : Blk), st'.heap[l]? = some b → st0.heap[l]? = some b ∨ okBlk st'.heap.length st'.toks.length b = true

/-- The same run, told otherwise. -/
def Ghost (env : Env) (st : St) (env' : Env) (st' : St) : Prop :=
  st.heap.length ≤ st'.heap.length ∧ st.toks.length ≤ st'.toks.length ∧ ∀ (G : Gh) (w : World) (tmps : Array Value), Inv G w st → TRel G w env tmps → ∃ G', Inv G' w st' ∧ Ext G w G' w st.heap.length st.toks.length ∧ TRel G' w env' tmps

theorem Ghost.refl (env : Env) (st : St) : Ghost env st env st := ⟨Nat.le_refl _, Nat.le_refl _, fun G w _ hI hT => ⟨G, hI, Ext.refl _ _ _ _, hT⟩⟩

theorem Ghost.trans {e1 e2 e3 : Env} {s1 s2 s3 : St} (h : Ghost e1 s1 e2 s2) (k : Ghost e2 s2 e3 s3) : Ghost e1 s1 e3 s3 := by
  obtain ⟨h1, h2, h3⟩ := h
  obtain ⟨k1, k2, k3⟩ := k
  refine ⟨Nat.le_trans h1 k1, Nat.le_trans h2 k2, fun G w tmps hI hT => ?_⟩
  obtain ⟨G1, i1, x1, t1⟩ := h3 G w tmps hI hT
  obtain ⟨G2, i2, x2, t2⟩ := k3 G1 w tmps i1 t1
  exact ⟨G2, i2, x1.trans x2 h1 h2, t2⟩

/-- A slot's slice, of which the capacity is the length, takes a token. -/
theorem Ghost.own {env : Env} {st : St} (t sz : Nat) {es : List AV} (h : env t = .sl .clip es) : Ghost env st (put env (some t) (.sl (.own st.toks.length) es)) { st with toks := st.toks ++ [(es.length, sz)] } := by
  refine ⟨Nat.le_refl _, by simp, fun G w tmps hI hT => ?_⟩
  have ht := hT t
  rw [h] at ht
  obtain ⟨G', i1, e1, v1⟩ := clipOwn hI sz ht
  refine ⟨G', i1, e1, fun s => ?_⟩
  show VRel G' w (if s = t then _ else env s) _
  by_cases e : s = t
  · subst e; rw [if_pos rfl]; exact v1
  · rw [if_neg e]; exact (hT s).inv hI e1

/-- A slot's slice that was made, and that is written no more, takes a token. -/
theorem Ghost.msl {env : Env} {st : St} (t : Nat) {l len : Nat} {sz : Option Nat} {vs : List AV} (h : env t = .msl l 0 len sz) (hpos : 0 < sz.getD 1) (hl : st.heap[l]? = some (.cells false vs)) (hlen : vs.length = len * sz.getD 1) :
    Ghost env st (put env (some t) (.sl (.own st.toks.length) (chunk sz len vs))) { heap := st.heap.set l (.cells true vs), toks := st.toks ++ [(len, sz.getD 1)] } := by
  refine ⟨by simp, by simp, fun G w tmps hI hT => ?_⟩
  have ht := hT t
  rw [h] at ht
  obtain ⟨G', i1, e1, v1, _⟩ := mslOwn hI hpos ht hl hlen
  refine ⟨G', i1, e1, fun s => ?_⟩
  show VRel G' w (if s = t then _ else env s) _
  by_cases e : s = t
  · subst e; rw [if_pos rfl]; exact v1
  · rw [if_neg e]; exact (hT s).inv hI e1

/-- From one round to the next: what the round made is forgotten, or the run goes on as it is. -/
def Next (st0 : St) (env : Env) (st : St) (env' : Env) (st' : St) : Prop :=
  (∃ L, env' = keepEnv L env ∧ Trunc st0 env st L st') ∨ Ghost env st env' st'

def awC (C : Calls1) : ACode → Env → St → (Exit → Env → St → Prop) → Prop
  | .skip, env, st, K => K .normal env st
  | .region is none, env, st, K => awI C is env st (K .normal)
  | .region is (some deps), env, st, K => awD C is deps env st (K .normal)
  | .seq a b, env, st, K => awC C a env st fun e env' st' => match e with
    | .normal => awC C b env' st' K
    | e => K e env' st'
  | .cond c a b, env, st, K => match opdV env c with
    | .bool t => if t then awC C a env st K else awC C b env st K
    | .ub => awC C a env st K ∧ awC C b env st K
    | _ => False
  | .block id b, env, st, K => awC C b env st fun e env' st' => match e with
    | .exit i => if i = id then K .normal env' st' else K (.exit i) env' st'
    | e => K e env' st'
  | .loop b, env, st, K => ∃ (I : Nat → Env → St → Prop) (n : Nat) (env1 : Env) (st1 : St), Ghost env st env1 st1 ∧ I n env1 st1 ∧ ∀ n env st, I n env st → awC C b env st fun e env' st' => match e with
    | .normal => ∃ n' env'' st'', n' < n ∧ Next st env' st' env'' st'' ∧ I n' env'' st''
    | e => K e env' st'
  | .exit id, env, st, K => K (.exit id) env st
  | .scope b, env, st, K => awC C b env st fun e env' st' => match e with
    | .goto _ => False
    | e => K e env' st'
  | .ret, env, st, K => K .ret env st
  | .label _, env, st, K => K .normal env st
  | .goto l, env, st, K => K (.goto l) env st
  | .scopeJ b l r, env, st, K => awC C b env st fun e env' st' => match e with
    | .goto l' => l' = l ∧ awC C r env' st' fun e env' st' => match e with
      | .goto _ => False
      | e => K e env' st'
    | e => K e env' st'

theorem insts_range {P : Program} {N : Nat} {M : List Nat} {ops : Array Oper} {is : List AIns} (h : compIns P N M ops = some is) : Insts P N ops (List.range ops.size) is := by
  obtain ⟨h1, h2⟩ := mapM_get h
  refine ⟨by simpa using h1.symm, fun n idx i hn hi => ?_⟩
  have hlt : n < is.length := (List.getElem?_eq_some_iff.1 hi).1
  have hlt' : n < ops.size := by simpa using (by omega : n < ops.toList.length)
  have hidx : idx = n := by
    rw [List.getElem?_range hlt'] at hn
    injection hn with hn
    exact hn.symm
  subst hidx
  exact ⟨ops[idx], by simp [hlt'], insOf (h2 idx ops[idx] i (by simp [hlt']) hi)⟩

theorem wp_loopN {P : Program} {Q : Exit → Act → World → Prop} {a : Act} {w : World} {c : Code} (I : Nat → Act → World → Prop) (n : Nat) (h₀ : I n a w)
    (round : ∀ n a w, I n a w → c.wp P (Exit.then (fun a' w' => ∃ n', n' < n ∧ I n' a' w') Q) a w) : (Code.loop c).wp P Q a w := by
  intro b k cs
  have key : ∀ n a w, I n a w → ∃ e a' w', Q e a' w' ∧ Arrives P (lone (b.at a (.code c :: .inLoop c :: k)) cs w) b k cs e a' w' := by
    intro n
    induction n using Nat.strongRecOn with
    | _ n ih =>
      intro a w hI
      obtain ⟨e, a₁, w₁, hq, harr⟩ := round n a w hI b (.inLoop c :: k) cs
      cases e with
      | normal =>
        obtain ⟨n', hlt, hI₁⟩ := hq
        obtain ⟨e₂, a₂, w₂, hq₂, harr₂⟩ := ih n' hlt a₁ w₁ hI₁
        exact ⟨e₂, a₂, w₂, hq₂, .of_steps (Steps.trans harr (.one step_inLoop)) harr₂⟩
      | exit id => exact ⟨_, a₁, w₁, hq, .pass (x := .inLoop c) rfl (fun _ _ => .inl (by simp)) harr⟩
      | goto l => exact ⟨_, a₁, w₁, hq, .pass (x := .inLoop c) rfl (fun _ _ => .inl (by simp)) harr⟩
      | ret => exact ⟨_, a₁, w₁, hq, .pass (x := .inLoop c) rfl (fun _ _ => .inl (by simp)) harr⟩
      | panic ch => exact ⟨_, a₁, w₁, hq, .pass (x := .inLoop c) rfl (fun _ _ => .inl (by simp)) harr⟩
      | outgrown => exact ⟨_, a₁, w₁, hq, .pass (x := .inLoop c) rfl (fun _ _ => .inl (by simp)) harr⟩
  obtain ⟨e, a', w', hq, harr⟩ := key n a w h₀
  exact ⟨e, a', w', hq, .of_steps (.one step_loop) harr⟩

/-- The meaning of 'awC', over the model's code. -/
def Awp (P : Program) (N n m : Nat) (c : Code) (env : Env) (st : St) (K : Exit → Env → St → Prop) : Prop :=
  ∀ (G0 : Gh) (w0 : World) (G : Gh) (w : World) (a : Act), At G0 w0 n m N G w env st a → c.wp P (Post G0 w0 n m N K) a w

def csz : Code → Nat
  | .seq a b => csz a + csz b + 1
  | .cond _ a b => csz a + csz b + 1
  | .block _ b => csz b + 1
  | .loop b => csz b + 1
  | .scope b => csz b + 1
  | _ => 1

theorem findA_ok {P : Program} {N : Nat} {M : List Nat} {l : Nat} : ∀ (c : Code) (ac : ACode) (r : ACode), compCode P N M c = some ac → findA ac l = some r → ∃ rest, findLabel c l = some rest ∧ compCode P N M rest = some r ∧ csz rest ≤ csz c
  | .seq a b, ac, r, h, hf => by
    simp only [compCode] at h
    cases hx : compCode P N M a with
    | none => simp [hx] at h
    | some x' =>
      cases hy : compCode P N M b with
      | none => simp [hx, hy] at h
      | some y' =>
        simp [hx, hy] at h
        subst h
        simp only [findA] at hf
        split at hf
        · rename_i r1 h1
          injection hf with hf
          subst hf
          obtain ⟨rest, g1, g2, g3⟩ := findA_ok a x' r1 hx h1
          exact ⟨.seq rest b, by simp [findLabel, g1], by simp [compCode, g2, hy], by simp only [csz]; omega⟩
        · rename_i h1
          obtain ⟨rest, g1, g2, g3⟩ := findA_ok b y' r hy hf
          refine ⟨rest, ?_, g2, by simp only [csz]; omega⟩
          rw [findLabel, findA_no a x' hx h1]
          exact g1
  | .label l', ac, r, h, hf => by
    simp only [compCode, Option.some.injEq] at h
    subst h
    simp only [findA] at hf
    split at hf
    · rename_i hl
      injection hf with hf
      subst hf
      exact ⟨.skip, by simp [findLabel, hl], rfl, Nat.le_refl _⟩
    · cases hf
  | .skip, ac, r, h, hf => by simp [compCode] at h; subst h; simp [findA] at hf
  | .region id ops draw, ac, r, h, hf => by
    simp only [compCode] at h
    cases hi : compIns P N M ops with
    | none => simp [hi] at h
    | some is =>
      simp only [hi, Option.bind_some] at h
      repeat' split at h
      all_goals (try (injection h with h; subst h; simp [findA] at hf))
      all_goals cases h
  | .cond c a b, ac, r, h, hf => by
    simp only [compCode, Option.bind_eq_some_iff, Option.map_eq_some_iff] at h
    obtain ⟨_, _, _, _, _, _, rfl⟩ := h
    simp [findA] at hf
  | .block id b, ac, r, h, hf => by
    simp only [compCode, Option.map_eq_some_iff] at h
    obtain ⟨_, _, rfl⟩ := h
    simp [findA] at hf
  | .loop b, ac, r, h, hf => by
    simp only [compCode, Option.map_eq_some_iff] at h
    obtain ⟨_, _, rfl⟩ := h
    simp [findA] at hf
  | .exit id, ac, r, h, hf => by simp [compCode] at h; subst h; simp [findA] at hf
  | .goto id, ac, r, h, hf => by simp [compCode] at h; subst h; simp [findA] at hf
  | .ret, ac, r, h, hf => by simp [compCode] at h; subst h; simp [findA] at hf
  | .rangeFunc .., ac, r, h, hf => by simp [compCode] at h
  | .refuse _, ac, r, h, hf => by simp [compCode] at h
  | .scope b, ac, r, h, hf => by
    simp only [compCode, Option.map_eq_some_iff] at h
    obtain ⟨b', _, rfl⟩ := h
    repeat' split at hf
    all_goals simp [findA] at hf
where findA_no {P : Program} {N : Nat} {M : List Nat} {l : Nat} : ∀ (c : Code) (ac : ACode), compCode P N M c = some ac → findA ac l = none → findLabel c l = none
  | .seq a b, ac, h, hf => by
    simp only [compCode] at h
    cases hx : compCode P N M a with
    | none => simp [hx] at h
    | some x' =>
      cases hy : compCode P N M b with
      | none => simp [hx, hy] at h
      | some y' =>
        simp [hx, hy] at h
        subst h
        simp only [findA] at hf
        split at hf
        · cases hf
        · rename_i h1
          rw [findLabel, findA_no a x' hx h1]
          exact findA_no b y' hy hf
  | .label l', ac, h, hf => by
    simp only [compCode, Option.some.injEq] at h
    subst h
    simp only [findA] at hf
    split at hf
    · cases hf
    · rename_i hl
      simp only [findLabel]
      rw [if_neg (by simpa using hl)]
  | .skip, _, _, _ => rfl
  | .region .., _, _, _ => rfl
  | .cond .., _, _, _ => rfl
  | .block .., _, _, _ => rfl
  | .loop _, _, _, _ => rfl
  | .exit _, _, _, _ => rfl
  | .goto _, _, _, _ => rfl
  | .ret, _, _, _ => rfl
  | .rangeFunc .., _, _, _ => rfl
  | .refuse _, _, _, _ => rfl
  | .scope _, _, _, _ => rfl

theorem awC_sound {P : Program} {N n m : Nat} {M : List Nat} : ∀ (c : Code) (ac : ACode) (env : Env) (st : St) (K : Exit → Env → St → Prop), compCode P N M c = some ac → awC (ASpec P) ac env st K → Awp P N n m c env st K
  | .skip, ac, env, st, K, hc, h => by
    simp [compCode] at hc
    subst hc
    intro G0 w0 G w a hat
    exact wp_skip (hat.post (by intro c e; cases e) h)
  | .region id ops draw, ac, env, st, K, hc, h => by
    simp only [compCode] at hc
    cases hi : compIns P N M ops with
    | none => simp [hi] at hc
    | some is =>
      simp only [hi, Option.bind_some] at hc
      cases draw with
      | true =>
        simp only [if_true] at hc
        split at hc
        · rename_i hcond
          simp only [Bool.and_eq_true] at hcond
          injection hc with hc
          subst hc
          intro G0 w0 G w a hat
          simp only [awC] at h
          refine wp_region_draw (fun t => ?_)
          rw [hcond.2]
          have hv := schedule_valid hcond.1 t
          have hat' : At G0 w0 n m N G { w with drawn := w.drawn + 1 } env st a :=
            ⟨hat.inv.drawn _, hat.ext.trans (Ext.drawn G w (w.drawn + 1) n m) (Nat.le_refl _) (Nat.le_refl _), hat.hn, hat.hm, fun t => (hat.rel t).inv hat.inv (Ext.drawn G w _ _ _), hat.size, hat.defers⟩
          refine awI_sound (fun G w env st a hat' hk => hat'.post (by intro c e; cases e) hk) _ _ G _ env st a ?_ hat' (h _ hv)
          have hr := insts_range hi
          refine ⟨by simp, fun n idx i hn hi' => ?_⟩
          have hmem : idx ∈ List.range ops.size := by
            have := hv.perm.mem_iff.1 (List.mem_of_getElem? hn)
            simpa [depsOf] using this
          have hlt : idx < ops.size := List.mem_range.1 hmem
          have hil : idx < is.length := by have := hr.1; simp at this; omega
          rw [List.getElem?_map, hn] at hi'
          simp only [Option.map_some, Option.some.injEq] at hi'
          subst hi'
          refine hr.2 idx idx _ (by rw [List.getElem?_range hlt]) ?_
          simp [List.getD, hil]
        · cases hc
      | false =>
        simp only [Bool.false_eq_true, if_false] at hc
        injection hc with hc
        subst hc
        intro G0 w0 G w a hat
        simp only [awC] at h
        exact wp_region (awI_sound (fun G w env st a hat' hk => hat'.post (by intro c e; cases e) hk) is _ G w env st a (insts_range hi) hat h)
  | .seq x y, ac, env, st, K, hc, h => by
    simp only [compCode] at hc
    cases hx : compCode P N M x with
    | none => simp [hx] at hc
    | some x' =>
      cases hy : compCode P N M y with
      | none => simp [hx, hy] at hc
      | some y' =>
        simp [hx, hy] at hc
        subst hc
        intro G0 w0 G w a hat
        simp only [awC] at h
        have ih := awC_sound (n := n) (m := m) x x' env st _ hx h
        refine wp_seq (wp_mono (ih G0 w0 G w a hat) fun e a' w' hp => ?_)
        rcases hp with hp | ⟨p1, p2, p3, G', env', st', k1, k2, k3, k4, k5, k6⟩
        · exact hp.elim
        · cases e with
          | normal => exact awC_sound (n := n) (m := m) y y' env' st' K hy k1 G0 w0 G' w' a' ⟨k2, k3, k4, k5, k6, p2, p1⟩
          | panic c => exact absurd rfl (p3 c)
          | _ => exact .inr ⟨p1, p2, p3, G', env', st', k1, k2, k3, k4, k5, k6⟩
  | .cond c x y, ac, env, st, K, hc, h => by
    simp only [compCode] at hc
    cases ho : opdA c with
    | none => simp [ho] at hc
    | some c' =>
      cases hx : compCode P N M x with
      | none => simp [ho, hx] at hc
      | some x' =>
        cases hy : compCode P N M y with
        | none => simp [ho, hx, hy] at hc
        | some y' =>
          simp [ho, hx, hy] at hc
          subst hc
          intro G0 w0 G w a hat
          simp only [awC] at h
          have hrel := opds_rel (xs := [c]) (as := [c']) hat.rel (by simp [ho])
          have hv := hrel.2 0 _ _ rfl rfl
          split at h
          · rename_i t ht
            rw [ht] at hv
            generalize hcv : a.eval c = cv at hv
            cases hv
            refine wp_cond hcv ?_
            cases t with
            | true => exact awC_sound (n := n) (m := m) x x' env st K hx h G0 w0 G w a hat
            | false => exact awC_sound (n := n) (m := m) y y' env st K hy h G0 w0 G w a hat
          · rename_i ht
            rw [ht] at hv
            generalize hcv : a.eval c = cv at hv
            cases hv with
            | ub t =>
              refine wp_cond hcv ?_
              cases t with
              | true => exact awC_sound (n := n) (m := m) x x' env st K hx h.1 G0 w0 G w a hat
              | false => exact awC_sound (n := n) (m := m) y y' env st K hy h.2 G0 w0 G w a hat
          · exact h.elim
  | .block id b, ac, env, st, K, hc, h => by
    simp only [compCode] at hc
    cases hb : compCode P N M b with
    | none => simp [hb] at hc
    | some b' =>
      simp [hb] at hc
      subst hc
      intro G0 w0 G w a hat
      simp only [awC] at h
      have ih := awC_sound (n := n) (m := m) b b' env st _ hb h
      refine wp_block (wp_mono (ih G0 w0 G w a hat) fun e a' w' hp => ?_)
      rcases hp with hp | ⟨p1, p2, p3, G', env', st', k1, k2, k3, k4, k5, k6⟩
      · exact hp.elim
      · cases e with
        | exit i =>
          simp only [] at k1
          simp only [Exit.inBlock]
          split at k1
          · rename_i hid
            rw [if_pos hid]
            exact .inr ⟨p1, p2, nofun, G', env', st', k1, k2, k3, k4, k5, k6⟩
          · rename_i hid
            rw [if_neg hid]
            exact .inr ⟨p1, p2, p3, G', env', st', k1, k2, k3, k4, k5, k6⟩
        | _ => exact .inr ⟨p1, p2, p3, G', env', st', k1, k2, k3, k4, k5, k6⟩
  | .loop b, ac, env, st, K, hc, h => by
    simp only [compCode] at hc
    cases hb : compCode P N M b with
    | none => simp [hb] at hc
    | some b' =>
      simp [hb] at hc
      subst hc
      intro G0 w0 G w a hat
      simp only [awC] at h
      obtain ⟨I, k, env1, st1, hgh, hk, hstep⟩ := h
      obtain ⟨g1, g2, g3⟩ := hgh
      obtain ⟨G1, i1, x1, t1⟩ := g3 G w a.tmps hat.inv hat.rel
      have hat1 : At G0 w0 n m N G1 w env1 st1 a := ⟨i1, hat.ext.trans x1 hat.hn hat.hm, Nat.le_trans hat.hn g1, Nat.le_trans hat.hm g2, t1, hat.size, hat.defers⟩
      refine wp_loopN (fun k a w => ∃ G env st, At G0 w0 n m N G w env st a ∧ I k env st) k ⟨G1, env1, st1, hat1, hk⟩ fun k a w hI => ?_
      obtain ⟨G1, env1, st1, hat1, hI1⟩ := hI
      have ih := awC_sound (n := n) (m := m) b b' env1 st1 _ hb (hstep k env1 st1 hI1)
      refine wp_mono (ih G0 w0 G1 w a hat1) fun e a' w' hp => ?_
      rcases hp with hp | ⟨p1, p2, p3, G', env', st', k1, k2, k3, k4, k5, k6⟩
      · exact hp.elim
      · cases e with
        | normal =>
          obtain ⟨n', env2, st2, hlt, hnx, hI'⟩ := k1
          rcases hnx with ⟨L, rfl, ⟨t1, ⟨g, t2⟩, ⟨gt, t3⟩, t4, t5, t6⟩⟩ | ⟨g1, g2, g3⟩
          · have hn2 : n ≤ st2.heap.length := by rw [← t4]; exact hat1.hn
            have hm2 : m ≤ st2.toks.length := by rw [← t5]; exact hat1.hm
            refine ⟨n', hlt, (G'.restrict st2.heap.length st2.toks.length), keepEnv L env', st2, ?_, hI'⟩
            obtain ⟨i3, e3⟩ := hat1.inv.truncate (st := st2) k2 k3 hn2 hm2 t4 t5 t2.symm t3.symm t6
            refine ⟨i3, e3, hn2, hm2, fun t => ?_, p2, p1⟩
            · simp only [keepEnv]
              split
              · rename_i ht
                exact (k6 t).restrict (t1 t ht)
              · exact .any _
          · obtain ⟨G2, i2, x2, t2⟩ := g3 G' w' a'.tmps k2 k6
            exact ⟨n', hlt, G2, env2, st2, ⟨i2, k3.trans x2 k4 k5, Nat.le_trans k4 g1, Nat.le_trans k5 g2, t2, p2, p1⟩, hI'⟩
        | panic c => exact absurd rfl (p3 c)
        | _ => exact .inr ⟨p1, p2, p3, G', env', st', k1, k2, k3, k4, k5, k6⟩
  | .exit id, ac, env, st, K, hc, h => by
    simp [compCode] at hc
    subst hc
    intro G0 w0 G w a hat
    exact wp_exit (hat.post (by intro c e; cases e) h)
  | .ret, ac, env, st, K, hc, h => by
    simp [compCode] at hc
    subst hc
    intro G0 w0 G w a hat
    exact wp_ret (hat.post (by intro c e; cases e) h)
  | .rangeFunc .., ac, env, st, K, hc, h => by simp [compCode] at hc
  | .scope b, ac, env, st, K, hc, h => by
    simp only [compCode] at hc
    cases hb : compCode P N M b with
    | none => simp [hb] at hc
    | some b' =>
      simp only [hb, Option.map_some, Option.some.injEq] at hc
      have plain : awC (ASpec P) (.scope b') env st K → Awp P N n m (.scope b) env st K := by
        intro h G0 w0 G w a hat
        simp only [awC] at h
        have ih := awC_sound (n := n) (m := m) b b' env st _ hb h
        refine wp_scope_straight (wp_mono (ih G0 w0 G w a hat) fun e a' w' hp => ?_)
        rcases hp with hp | ⟨p1, p2, p3, G', env', st', k1, k2, k3, k4, k5, k6⟩
        · exact hp.elim
        · cases e with
          | goto l => exact k1.elim
          | panic c => exact absurd rfl (p3 c)
          | _ => exact .inr ⟨p1, p2, p3, G', env', st', k1, k2, k3, k4, k5, k6⟩
      split at hc
      · subst hc; exact plain h
      · rename_i l _
        split at hc
        · rename_i r hr
          subst hc
          obtain ⟨rest, hf, hcr, hsz⟩ := findA_ok b b' r hb hr
          intro G0 w0 G w a hat
          simp only [awC] at h
          have ih := awC_sound (n := n) (m := m) b b' env st _ hb h
          refine wp_scope_jumps l (fun a' w' => ∃ G env st, At G0 w0 n m N G w' env st a' ∧ awC (ASpec P) r env st fun e env' st' => match e with
            | .goto _ => False
            | e => K e env' st') (fun _ _ => 0) hf (wp_mono (ih G0 w0 G w a hat) fun e a' w' hp => ?_) fun a w hJ => ?_
          · rcases hp with hp | ⟨p1, p2, p3, G', env', st', k1, k2, k3, k4, k5, k6⟩
            · exact hp.elim
            · cases e with
              | goto l' =>
                obtain ⟨rfl, k1⟩ := k1
                exact ⟨rfl, G', env', st', ⟨k2, k3, k4, k5, k6, p2, p1⟩, k1⟩
              | panic c => exact absurd rfl (p3 c)
              | _ => exact .inr ⟨p1, p2, p3, G', env', st', k1, k2, k3, k4, k5, k6⟩
          · obtain ⟨G1, env1, st1, hat1, h1⟩ := hJ
            have ih := awC_sound (n := n) (m := m) rest r env1 st1 _ hcr h1
            refine wp_mono (ih G0 w0 G1 w a hat1) fun e a' w' hp => ?_
            rcases hp with hp | ⟨p1, p2, p3, G', env', st', k1, k2, k3, k4, k5, k6⟩
            · exact hp.elim
            · cases e with
              | goto l' => exact k1.elim
              | panic c => exact absurd rfl (p3 c)
              | _ => exact .inr ⟨p1, p2, p3, G', env', st', k1, k2, k3, k4, k5, k6⟩
        · subst hc; exact plain h
  | .label _, ac, env, st, K, hc, h => by
    simp [compCode] at hc
    subst hc
    intro G0 w0 G w a hat
    exact wp_label (hat.post (by intro c e; cases e) h)
  | .goto _, ac, env, st, K, hc, h => by
    simp [compCode] at hc
    subst hc
    intro G0 w0 G w a hat
    exact wp_goto (hat.post (by intro c e; cases e) h)
  | .refuse _, ac, env, st, K, hc, h => by simp [compCode] at hc
termination_by c => csz c
decreasing_by all_goals (simp only [csz]; omega)

end Go.Am

/- The abstract machine's functions: a call's contract out of what its body does. -/
namespace Go.Am

/-! Functions. -/

inductive RV where
  | tmp (t : Nat)
  | cell (a : Nat) (sz : Option Nat)
  deriving Inhabited

def rvOf (P : Program) : ResultVar → Option RV
  | .tmp t => some (.tmp t)
  | .cell a t => (szOf P t).map (.cell a)

def resV (env : Env) (st : St) : RV → Option AV
  | .tmp t => some (env t)
  | .cell a sz => evR (.load sz) [env a] st

def resL (env : Env) (st : St) : List RV → Option (List AV)
  | [] => some []
  | r :: rs => (resV env st r).bind fun v => (resL env st rs).map fun vs => v :: vs

def one : List AV → AV
  | [v] => v
  | vs => .tup vs

/-- What a call hands back as it is, tokens and all; what it made, and nobody names, is forgotten. -/
def finishR (st0 : St) (vs : List AV) (st : St) (R : AV → St → Prop) : Prop :=
  (st0.heap.length ≤ st.heap.length ∧ st0.toks.length ≤ st.toks.length ∧ R (one vs) st) ∨ ∃ st2, st2.heap <+: st.heap ∧ st2.toks <+: st.toks ∧ st0.heap.length = st2.heap.length ∧ st0.toks.length = st2.toks.length ∧
    (∀ (l : Nat) (b : Blk), st2.heap[l]? = some b → st0.heap[l]? = some b ∨ okBlk st2.heap.length st2.toks.length b = true) ∧ okL st2.heap.length st2.toks.length vs = true ∧ R (one vs) st2

/-- .. or frozen. -/
def finish (st0 : St) (vs : List AV) (st : St) (R : AV → St → Prop) : Prop :=
  ∃ vs' st', frzs vs st = some (vs', st') ∧
    ((∃ g gt, st'.heap = st0.heap ++ g ∧ st'.toks = st0.toks ++ gt ∧ okL st0.heap.length st0.toks.length vs' = true ∧ R (one vs') st0) ∨ (st0.heap.length ≤ st'.heap.length ∧ st0.toks.length ≤ st'.toks.length ∧ R (one vs') st') ∨ finishR st0 vs' st' R)

structure IsFun (P : Program) (f : Nat) (np N : Nat) (ac : ACode) (rs : List RV) : Prop where
  np_le : np ≤ N
  ex : ∃ fn code M, P.funcs[f]? = some fn ∧ fn.body = some code ∧ fn.name ≠ "runtime.NumGoroutine" ∧ fn.ntmps = N ∧ compCode P N M code = some ac ∧ fn.results.toList.mapM (rvOf P) = some rs

def env0 (args : List AV) : Env := fun t => args.getD t (.tup [])

def resRun (tmps : Array Value) (r : ResultVar) : Sem Value :=
  match r with
  | .tmp t => pure (tmps.getD t undef)
  | .cell a t => do loadVar t (← asAddr (tmps.getD a undef))

theorem results_eq (fn : Func) (tmps : Array Value) : results fn tmps = (do let vs ← fn.results.mapM (resRun tmps); pure (if h : vs.size = 1 then vs[0] else .tuple vs)) := rfl

theorem run_results {P : Program} {G : Gh} {w : World} {st : St} {env : Env} {tmps : Array Value} (hI : Inv G w st) (hT : TRel G w env tmps) : ∀ {rvs : List ResultVar} {rs : List RV} {vs : List AV}, rvs.mapM (rvOf P) = some rs → resL env st rs = some vs →
    ∃ ys : List Value, (rvs.mapM (resRun tmps)).run P w = .ok ys w ∧ ListRel G w vs ys
  | [], rs, vs, hm, hr => by
    simp at hm
    subst hm
    simp [resL] at hr
    subst hr
    exact ⟨[], rfl, rfl, by simp⟩
  | rv :: rvs, rs, vs, hm, hr => by
    simp only [List.mapM_cons, Option.bind_eq_bind] at hm
    cases h1 : rvOf P rv with
    | none => simp [h1] at hm
    | some r =>
      cases h2 : rvs.mapM (rvOf P) with
      | none => simp [h1, h2] at hm
      | some rs' =>
        simp [h1, h2] at hm
        subst hm
        simp only [resL] at hr
        cases h3 : resV env st r with
        | none => simp [h3] at hr
        | some v =>
          cases h4 : resL env st rs' with
          | none => simp [h3, h4] at hr
          | some vs' =>
            simp [h3, h4] at hr
            subst hr
            obtain ⟨ys, q1, q2⟩ := run_results hI hT h2 h4
            have hy : ∃ y, (resRun tmps rv).run P w = .ok y w ∧ VRel G w v y := by
              cases rv with
              | tmp t =>
                simp [rvOf] at h1
                subst h1
                simp [resV] at h3
                subst h3
                exact ⟨_, rfl, hT t⟩
              | cell a t =>
                cases hs : szOf P t with
                | none => simp [rvOf, hs] at h1
                | some sz =>
                  simp [rvOf, hs] at h1
                  subst h1
                  simp only [resV] at h3
                  obtain ⟨y, r1, r2⟩ := load_sound (P := P) hs hI (hT a) h3
                  refine ⟨y, ?_, r2⟩
                  simp only [resRun]
                  generalize tmps.getD a undef = x at r1
                  cases x <;> simp [Instr.loadAt, Instr.sureAddr] at r1
                  rename_i p
                  cases p <;> simp at r1
                  simp [asAddr, r1]
            obtain ⟨y, p1, p2⟩ := hy
            refine ⟨y :: ys, ?_, by simp [q2.1], fun i c u hc hu => ?_⟩
            · rw [List.mapM_cons]
              simp only [Sem.run_bind]
              rw [p1]
              simp only [Result.andThen]
              rw [q1]
              rfl
            · cases i with
              | zero => simp at hc hu; subst hc; subst hu; exact p2
              | succ i => exact q2.2 i c u (by simpa using hc) (by simpa using hu)

theorem callFunc_enter {P : Program} {f : Nat} {fn : Func} {code : Code} (hf : P.funcs[f]? = some fn) (hb : fn.body = some code) (hn : fn.name ≠ "runtime.NumGoroutine") (vs : Array Value) (w : World) : (callFunc f vs).run P w = .ok (.enter f vs) w := by
  simp only [callFunc, Sem.run_bind, run_program, Result.andThen, hf]
  have : (fn.name == "runtime.NumGoroutine") = false := by simpa using hn
  simp [this, hb]

theorem aspec_of {P : Program} {f np N : Nat} {ac : ACode} {rs : List RV} {args : List AV} {st : St} {R : AV → St → Prop} (hF : IsFun P f np N ac rs) (hnp : args.length = np)
    (h : awC (ASpec P) ac (env0 args) st fun e env' st' => (e = .normal ∨ e = .ret) ∧ ∃ vs, resL env' st' rs = some vs ∧ (finish st vs st' R ∨ finishR st vs st' R)) : ASpec P f args st R := by
  obtain ⟨hle, fn, code, M, hf, hb, hn, hN, hc, hrs⟩ := hF
  refine ⟨callFunc_enter hf hb hn, fun G w vs hI hv => ?_⟩
  refine calls_of_wp hf hb ?_
  have hat : At G w st.heap.length st.toks.length N G w (env0 args) st { tmps := vs ++ Array.replicate (fn.ntmps - vs.size) undef, defers := [] } := by
    have hl := hv.1
    simp only [Array.length_toList] at hl
    refine ⟨hI, Ext.refl _ _ _ _, Nat.le_refl _, Nat.le_refl _, fun t => ?_, by simp; omega, rfl⟩
    simp only [env0, List.getD]
    cases ht : args[t]? with
    | none =>
      have hge : args.length ≤ t := by
        rcases Nat.lt_or_ge t args.length with h | h
        · simp [h] at ht
        · exact h
      have : (vs ++ Array.replicate (fn.ntmps - vs.size) undef).getD t undef = undef := by
        simp only [Array.getD]
        split
        · rw [Array.getInternal_eq_getElem, Array.getElem_append_right (by omega)]
          simp
        · rfl
      rw [this]
      exact .tup _ _ rfl (by simp)
    | some v =>
      have hlt := (List.getElem?_eq_some_iff.1 ht).1
      have hlt' : t < vs.size := by omega
      have : (vs ++ Array.replicate (fn.ntmps - vs.size) undef).getD t undef = vs[t] := by
        simp only [Array.getD]
        rw [dif_pos (by simp; omega), Array.getInternal_eq_getElem, Array.getElem_append_left hlt']
      rw [this]
      exact hv.2 t v vs[t] ht (by simp [hlt'])
  have hw := awC_sound (n := st.heap.length) (m := st.toks.length) code ac (env0 args) st _ hc h G w G w _ hat
  refine wp_mono hw fun e a' w' hp => ?_
  rcases hp with hp | ⟨p1, p2, p3, G', env', st', ⟨k1, vs1, k2, kfin⟩, k5, k6, k7, k8, k9⟩
  · exact hp.elim
  · have fin : ∃ v, (results fn a'.tmps).run P w' = .ok v w' ∧ ∃ G' v1 st', R v1 st' ∧ Inv G' w' st' ∧ Ext G w G' w' st.heap.length st.toks.length ∧ VRel G' w' v1 v ∧ st.heap.length ≤ st'.heap.length ∧ st.toks.length ≤ st'.toks.length := by
      obtain ⟨ys, q1, q2⟩ := run_results (P := P) k5 k9 hrs k2
      have hone : ∀ {G : Gh} {vs : List AV} {ys : List Value}, ListRel G w' vs ys → VRel G w' (one vs) (if h : ys.toArray.size = 1 then ys.toArray[0] else .tuple ys.toArray) := by
        intro G vs ys hr
        match vs, ys, hr with
        | [], [], hr => exact .tup _ _ rfl (by simp)
        | [v], [y], hr => exact hr.2 0 v y rfl rfl
        | v :: v' :: vs, y :: y' :: ys, hr =>
          have := VRel.tup (G := G) (w := w') (v :: v' :: vs) (y :: y' :: ys).toArray (by simpa using hr.1) (fun i c u hc hu => hr.2 i c u hc (by simpa using hu))
          simpa [one] using this
        | [], _ :: _, hr => have := hr.1; simp at this
        | _ :: _, [], hr => have := hr.1; simp at this
        | [_], _ :: _ :: _, hr => have := hr.1; simp at this
        | _ :: _ :: _, [_], hr => have := hr.1; simp at this
      refine ⟨(if h : ys.toArray.size = 1 then ys.toArray[0] else .tuple ys.toArray), ?_, ?_⟩
      · rw [results_eq]
        simp only [Sem.run_bind, Array.mapM_eq_mapM_toList, Sem.run_map]
        rw [q1]
        rfl
      · rcases kfin with ⟨vs2, st2, k3, k4⟩ | ⟨f1, f2, f3⟩ | ⟨st2, f1, f2, f3, f4, f5, f6, f7⟩
        · obtain ⟨G2, i2, e2, r2, l2, t2⟩ := frzs_sound k5 q2 k3
          have eAll := k6.trans e2 k7 k8
          rcases k4 with ⟨g, gt, g1, g2, g3, g4⟩ | ⟨g1, g2, g3⟩ | ⟨g1, g2, g3⟩ | ⟨st3, f1, f2, f3, f4, f5, f6, f7⟩
          · obtain ⟨i3, e3⟩ := hI.truncate (st := st) i2 eAll (Nat.le_refl _) (Nat.le_refl _) rfl rfl g1 g2 (fun l b h => .inl h)
            refine ⟨_, _, st, g4, i3, e3, ?_, Nat.le_refl _, Nat.le_refl _⟩
            refine hone ⟨r2.1, fun i c u hc hu => (r2.2 i c u hc hu).restrict (okL_get g3 hc)⟩
          · exact ⟨G2, _, st2, g3, i2, eAll, hone r2, g1, g2⟩
          · exact ⟨G2, _, st2, g3, i2, eAll, hone r2, g1, g2⟩
          · obtain ⟨g, g1⟩ := f1
            obtain ⟨gt, g2⟩ := f2
            obtain ⟨i3, e3⟩ := hI.truncate (st := st3) i2 eAll (by omega) (by omega) f3 f4 g1.symm g2.symm f5
            refine ⟨_, _, st3, f7, i3, e3, ?_, by omega, by omega⟩
            exact hone ⟨r2.1, fun i c u hc hu => (r2.2 i c u hc hu).restrict (okL_get f6 hc)⟩
        · exact ⟨G', _, st', f3, k5, k6, hone q2, f1, f2⟩
        · obtain ⟨g, g1⟩ := f1
          obtain ⟨gt, g2⟩ := f2
          obtain ⟨i3, e3⟩ := hI.truncate (st := st2) k5 k6 (by omega) (by omega) f3 f4 g1.symm g2.symm f5
          refine ⟨_, _, st2, f7, i3, e3, ?_, by omega, by omega⟩
          exact hone ⟨q2.1, fun i c u hc hu => (q2.2 i c u hc hu).restrict (okL_get f6 hc)⟩
    obtain ⟨v, q1, q2⟩ := fin
    rcases k1 with rfl | rfl
    · exact ⟨p1, v, q1, q2⟩
    · exact ⟨p1, v, q1, q2⟩

end Go.Am

/- The abstract machine's code: a region's instructions, in whatever order they are told; calls; the rest of the code. -/
import Derived.Scope
import Derived.Control
import Derived.Test.YtbmcgfdopaaiiaaZAmDraw
import Derived.Test.YtbmcgfdopaaiiaaZAmOk
import Derived.Test.YtbmcgfdopaaiiaaZAmSound10
set_option linter.all false
namespace Go.Am

/-- Instructions and the places of the operations that they are compiled from. -/
def Insts (P : Program) (N : Nat) (ops : Array Oper) (idxs : List Nat) (is : List AIns) : Prop :=
  idxs.length = is.length ∧ ∀ (n idx : Nat) (i : AIns), idxs[n]? = some idx → is[n]? = some i → ∃ o, ops[idx]? = some o ∧ InsOf P N ops o i

/-- Where a run stands: the relation, and that it has come from the start by what is allowed. -/
structure At (G0 : Gh) (w0 : World) (n m N : Nat) (G : Gh) (w : World) (env : Env) (st : St) (a : Act) : Prop where
  inv : Inv G w st
  ext : Ext G0 w0 G w n m
  hn : n ≤ st.heap.length
  hm : m ≤ st.toks.length
  rel : TRel G w env a.tmps
  size : N ≤ a.tmps.size
  defers : a.defers = []

theorem At.post {G0 : Gh} {w0 : World} {n m N : Nat} {G : Gh} {w : World} {env : Env} {st : St} {a : Act} (h : At G0 w0 n m N G w env st a) {K : Exit → Env → St → Prop} {e : Exit} (he : ∀ c, e ≠ .panic c) (hk : K e env st) : Post G0 w0 n m N K e a w :=
  .inr ⟨h.defers, h.size, he, G, env, st, hk, h.inv, h.ext, h.hn, h.hm, h.rel⟩

theorem At.step {G0 : Gh} {w0 : World} {n m N : Nat} {G : Gh} {w : World} {env : Env} {st : St} {a : Act} (h : At G0 w0 n m N G w env st a) {G' : Gh} {w' : World} {st' : St} (hI : Inv G' w' st') (hE : Ext G w G' w' st.heap.length st.toks.length)
    (h1 : st.heap.length ≤ st'.heap.length) (h2 : st.toks.length ≤ st'.toks.length) {d : Option Nat} (hd : ∀ t, d = some t → t < N) {v : AV} {y : Value} (hy : VRel G' w' v y) : At G0 w0 n m N G' w' (put env d v) st' (a.put d y) := by
  obtain ⟨q1, q2, q3⟩ := h.rel.put (G' := G') (w' := w') (fun v x hv => hv.inv h.inv hE) hd h.size hy a rfl
  exact ⟨hI, h.ext.trans hE h.hn h.hm, Nat.le_trans h.hn h1, Nat.le_trans h.hm h2, q1, by rw [q2]; exact h.size, by rw [q3]; exact h.defers⟩

theorem resolve_value {P : Program} {w : World} {ρ : Operand → Value} {f : Operand} {args : Array Operand} {argTypes : Array TypeId} {ty : TypeId} {fn : Fn} {first caps : Array Value} (h : ρ f = .func fn first caps) :
    (resolve ρ { callee := .value f, args, argTypes } ty).run P w = .ok { target := .fn fn caps, args := first ++ args.map ρ } w := by
  simp [resolve, Deferred.ofValue, h]

/-- What is handed over may be frozen first. -/
theorem aspec_frz {P : Program} {f : Nat} {args vs : List AV} {st st1 : St} {R : AV → St → Prop} (hf : frzs args st = some (vs, st1)) (h : ASpec P f vs st1 R) : ASpec P f args st R := by
  refine ⟨h.1, fun G w ys hI hv => ?_⟩
  obtain ⟨G1, i1, e1, r1, l1, t1⟩ := frzs_sound hI hv hf
  refine (h.2 G1 w ys i1 r1).mono fun e w' he => ?_
  cases e with
  | outgrown => exact he
  | panicked c => exact he
  | returned y =>
    obtain ⟨G', v, st', k1, k2, k3, k4, k5, k6⟩ := he
    exact ⟨G', v, st', k1, k2, e1.trans k3 (by omega) (by rw [t1]; exact Nat.le_refl _), k4, by omega, by rw [t1] at k6; exact k6⟩

theorem awI_sound {P : Program} {N : Nat} {ops : Array Oper} {G0 : Gh} {w0 : World} {n m : Nat} {K : Env → St → Prop} {Q : Exit → Act → World → Prop}
    (hQ : ∀ G w env st a, At G0 w0 n m N G w env st a → K env st → Q .normal a w) : ∀ (is : List AIns) (idxs : List Nat) (G : Gh) (w : World) (env : Env) (st : St) (a : Act), Insts P N ops idxs is → At G0 w0 n m N G w env st a → awI (ASpec P) is env st K → wpOps P ops Q idxs a w
  | [], idxs, G, w, env, st, a, hi, hat, h => by
    have : idxs = [] := by have := hi.1; simpa using this
    subst this
    exact hQ _ _ _ _ _ hat h
  | i :: is, idxs, G, w, env, st, a, hi, hat, h => by
    cases idxs with
    | nil => have := hi.1; simp at this
    | cons idx idxs =>
      obtain ⟨o, ho, hio⟩ := hi.2 0 idx i rfl rfl
      have hi' : Insts P N ops idxs is := ⟨by have := hi.1; simpa using this, fun n idx i h1 h2 => hi.2 (n + 1) idx i (by simpa using h1) (by simpa using h2)⟩
      have ih := awI_sound (P := P) (N := N) (ops := ops) hQ is idxs
      simp only [wpOps, ho]
      simp only [awI] at h
      cases hw : wantedA i.guard env with
      | none => simp [hw] at h
      | some b =>
        have hwant := wanted_rel hat.rel hio.guard hw
        rw [hw] at h
        rw [hwant]
        cases b with
        | false =>
          simp only [Bool.false_eq_true, if_false] at h ⊢
          rw [hio.dst.1]
          exact ih G w _ st _ hi' (hat.step hat.inv (Ext.refl _ _ _ _) (Nat.le_refl _) (Nat.le_refl _) hio.dst.2 (.tup [] #[] rfl (by simp))) h
        | true =>
          simp only [if_true] at h ⊢
          refine .inl ?_
          obtain ⟨k0, xs, hc, hm, hk0⟩ := hio.comp
          have hargs := opds_rel hat.rel hm
          rcases hk0 with rfl | ⟨op0, opM, hocl, rfl, hkM⟩
          case inr =>
            rw [hkM] at h
            simp only [] at h
            cases he : evA opM (i.args.map (opdV env)) st with
            | none => simp [he] at h
            | some p =>
              obtain ⟨v, st'⟩ := p
              rw [he] at h
              simp only [] at h
              obtain ⟨nx, y, w', G', r1, r2, r3, r4, r5⟩ := op_soundM (o := o) hat.inv hocl (comp_prim hc) hargs he
              obtain ⟨l1, l2⟩ := NOk.lens (P := P) (G := G) (w := w) he
              have hnext := ih G' w' (put env i.dst v) st' (a.put o.dst y) hi' (by rw [hio.dst.1]; exact hat.step r3 r4 l1 l2 hio.dst.2 r5) h
              unfold Oper.wp
              rw [r1]
              rcases r2 with rfl | ⟨rfl, rfl⟩
              · exact hnext
              · exact hnext
          cases hk : i.kind with
          | prim op =>
            rw [hk] at h hc
            simp only [] at h
            cases he : evA op (i.args.map (opdV env)) st with
            | none => simp [he] at h
            | some p =>
              obtain ⟨v, st'⟩ := p
              rw [he] at h
              simp only [] at h
              obtain ⟨nx, y, w', G', r1, r2, r3, r4, r5⟩ := op_sound (o := o) hat.inv (comp_prim hc) hargs he
              obtain ⟨l1, l2⟩ := NOk.lens (P := P) (G := G) (w := w) he
              have hnext := ih G' w' (put env i.dst v) st' (a.put o.dst y) hi' (by rw [hio.dst.1]; exact hat.step r3 r4 l1 l2 hio.dst.2 r5) h
              unfold Oper.wp
              rw [r1]
              rcases r2 with rfl | ⟨rfl, rfl⟩
              · exact hnext
              · exact hnext
          | call f =>
            rw [hk] at h hc
            simp only [] at h
            obtain ⟨args, argTypes, hop, rfl⟩ := comp_call hc
            have hspec := h.2 G w (args.map a.eval) hat.inv (by simpa using hargs)
            unfold Oper.wp execOp
            rw [hop]
            simp only [Sem.run_bind, resolve_value (P := P) (w := w) (args := args) (argTypes := argTypes) (ty := o.type) (show a.eval (.func f) = .func (.func f) #[] #[] from rfl), Result.andThen, invoke, h.1, Array.empty_append, Array.append_empty]
            rw [Oper.upon_enter]
            refine hspec.mono fun e w' he => ?_
            cases e with
            | outgrown => exact he.elim
            | panicked c => exact he.elim
            | returned y =>
              obtain ⟨G', v, st', k1, k2, k3, k4, k5, k6⟩ := he
              refine ih G' w' _ st' _ hi' ?_ k1
              rw [hio.dst.1]
              exact hat.step k2 k3 k5 k6 hio.dst.2 k4
          | callV =>
            rw [hk] at h hc
            simp only [] at h
            obtain ⟨g, args, argTypes, hop, rfl⟩ := comp_callV hc
            obtain ⟨x, xs', hx0, hx1, hx2⟩ := hargs.cons_inv
            rw [hx0] at h
            cases x with
            | fn fnv first caps =>
              cases fnv with
              | func f =>
                simp only [] at h
                generalize hgv : a.eval g = gv at hx1
                cases hx1 with
                | fn _ _ _ us cs u1 u2 u3 u4 =>
                  have hall : ListRel G w (first ++ xs' ++ caps) (us ++ args.map a.eval ++ cs).toList := by
                    have hl2 := hx2.1
                    simp only [List.length_map, Array.length_toList] at hl2
                    refine ⟨by simp [u1, u2, hl2], fun j c v hc hv => ?_⟩
                    simp only [Array.toList_append] at hv
                    rw [List.append_assoc] at hc hv
                    rcases Nat.lt_or_ge j first.length with hlt | hge
                    · rw [List.getElem?_append_left hlt] at hc
                      rw [List.getElem?_append_left (by simpa [← u1] using hlt)] at hv
                      exact u3 j c v hc (by simpa using hv)
                    · rw [List.getElem?_append_right hge] at hc
                      rw [List.getElem?_append_right (by simpa [← u1] using hge)] at hv
                      have e1 : us.toList.length = first.length := by simp [u1]
                      rw [e1] at hv
                      rcases Nat.lt_or_ge (j - first.length) xs'.length with hlt2 | hge2
                      · rw [List.getElem?_append_left hlt2] at hc
                        rw [List.getElem?_append_left (by simpa [← hl2] using hlt2)] at hv
                        exact hx2.2 _ c v hc (by simpa using hv)
                      · rw [List.getElem?_append_right hge2] at hc
                        rw [List.getElem?_append_right (by simpa [← hl2] using hge2)] at hv
                        have e2 : (args.map a.eval).toList.length = xs'.length := by simp [hl2]
                        rw [e2] at hv
                        exact u4 _ c v hc (by simpa using hv)
                  have hspec := h.2 G w _ hat.inv hall
                  unfold Oper.wp execOp
                  rw [hop]
                  simp only [Sem.run_bind, resolve_value (P := P) (w := w) (args := args) (argTypes := argTypes) (ty := o.type) hgv, Result.andThen, invoke, h.1]
                  rw [Oper.upon_enter]
                  refine hspec.mono fun e w' he => ?_
                  cases e with
                  | outgrown => exact he.elim
                  | panicked c => exact he.elim
                  | returned y =>
                    obtain ⟨G', v, st', k1, k2, k3, k4, k5, k6⟩ := he
                    refine ih G' w' _ st' _ hi' ?_ k1
                    rw [hio.dst.1]
                    exact hat.step k2 k3 k5 k6 hio.dst.2 k4
              | _ => simp at h
            | _ => simp at h


/-! Code. -/

def compIns (P : Program) (N : Nat) (M : List Nat) (ops : Array Oper) : Option (List AIns) := ops.toList.mapM (compOper P N M ops)

def compCode (P : Program) (N : Nat) (M : List Nat) : Code → Option ACode
  | .skip => some .skip
  | .region _ ops draw => (compIns P N M ops).bind fun is =>
    if draw then if depsBack ops && P.follows .mixedOrders then some (.region is (some (depsOf ops))) else none
    else some (.region is none)
  | .seq a b => (compCode P N M a).bind fun a' => (compCode P N M b).map fun b' => .seq a' b'
  | .cond c a b => (opdA c).bind fun c' => (compCode P N M a).bind fun a' => (compCode P N M b).map fun b' => .cond c' a' b'
  | .block id b => (compCode P N M b).map (.block id)
  | .loop b => (compCode P N M b).map .loop
  | .exit id => some (.exit id)
  | .ret => some .ret
  | .label _ => some .skip
  | .scope b => (compCode P N M b).map .scope
  | _ => none

/-- A region whose order is open: whatever order is drawn. -/
def awD (C : Calls1) (is : List AIns) (deps : List (List Nat)) (env : Env) (st : St) (K : Env → St → Prop) : Prop :=
  ∀ l, Valid deps l → awI C (l.map fun i => is.getD i default) env st K

/-- The slots that are kept; of the others nothing is known any more. -/
def keepEnv (L : List Nat) (env : Env) : Env := fun t => if t ∈ L then env t else .any

/-- Behind a round: what it made is forgotten. -/
def Trunc (st0 : St) (env : Env) (st : St) (L : List Nat) (st' : St) : Prop :=
  (∀ t ∈ L, (env t).ok st'.heap.length st'.toks.length = true) ∧ st'.heap <+: st.heap ∧ st'.toks <+: st.toks ∧ st0.heap.length = st'.heap.length ∧ st0.toks.length = st'.toks.length ∧
    ∀ (l : Nat) (b : Blk), st'.heap[l]? = some b → st0.heap[l]? = some b ∨ okBlk st'.heap.length st'.toks.length b = true

/-- The same run, told otherwise. -/
def Ghost (env : Env) (st : St) (env' : Env) (st' : St) : Prop :=
  st.heap.length ≤ st'.heap.length ∧ st.toks.length ≤ st'.toks.length ∧ ∀ (G : Gh) (w : World) (tmps : Array Value), Inv G w st → TRel G w env tmps → ∃ G', Inv G' w st' ∧ Ext G w G' w st.heap.length st.toks.length ∧ TRel G' w env' tmps

theorem Ghost.refl (env : Env) (st : St) : Ghost env st env st := ⟨Nat.le_refl _, Nat.le_refl _, fun G w _ hI hT => ⟨G, hI, Ext.refl _ _ _ _, hT⟩⟩

theorem Ghost.trans {e1 e2 e3 : Env} {s1 s2 s3 : St} (h : Ghost e1 s1 e2 s2) (k : Ghost e2 s2 e3 s3) : Ghost e1 s1 e3 s3 := by
  obtain ⟨h1, h2, h3⟩ := h
  obtain ⟨k1, k2, k3⟩ := k
  refine ⟨Nat.le_trans h1 k1, Nat.le_trans h2 k2, fun G w tmps hI hT => ?_⟩
  obtain ⟨G1, i1, x1, t1⟩ := h3 G w tmps hI hT
  obtain ⟨G2, i2, x2, t2⟩ := k3 G1 w tmps i1 t1
  exact ⟨G2, i2, x1.trans x2 h1 h2, t2⟩

/-- A slot's slice, of which the capacity is the length, takes a token. -/
theorem Ghost.own {env : Env} {st : St} (t sz : Nat) {es : List AV} (h : env t = .sl .clip es) : Ghost env st (put env (some t) (.sl (.own st.toks.length) es)) { st with toks := st.toks ++ [(es.length, sz)] } := by
  refine ⟨Nat.le_refl _, by simp, fun G w tmps hI hT => ?_⟩
  have ht := hT t
  rw [h] at ht
  obtain ⟨G', i1, e1, v1⟩ := clipOwn hI sz ht
  refine ⟨G', i1, e1, fun s => ?_⟩
  show VRel G' w (if s = t then _ else env s) _
  by_cases e : s = t
  · subst e; rw [if_pos rfl]; exact v1
  · rw [if_neg e]; exact (hT s).inv hI e1

/-- A slot's slice that was made, and that is written no more, takes a token. -/
theorem Ghost.msl {env : Env} {st : St} (t : Nat) {l len : Nat} {sz : Option Nat} {vs : List AV} (h : env t = .msl l 0 len sz) (hpos : 0 < sz.getD 1) (hl : st.heap[l]? = some (.cells false vs)) (hlen : vs.length = len * sz.getD 1) :
    Ghost env st (put env (some t) (.sl (.own st.toks.length) (chunk sz len vs))) { heap := st.heap.set l (.cells true vs), toks := st.toks ++ [(len, sz.getD 1)] } := by
  refine ⟨by simp, by simp, fun G w tmps hI hT => ?_⟩
  have ht := hT t
  rw [h] at ht
  obtain ⟨G', i1, e1, v1, _⟩ := mslOwn hI hpos ht hl hlen
  refine ⟨G', i1, e1, fun s => ?_⟩
  show VRel G' w (if s = t then _ else env s) _
  by_cases e : s = t
  · subst e; rw [if_pos rfl]; exact v1
  · rw [if_neg e]; exact (hT s).inv hI e1

/-- From one round to the next: what the round made is forgotten, or the run goes on as it is. -/
def Next (st0 : St) (env : Env) (st : St) (env' : Env) (st' : St) : Prop :=
  (∃ L, env' = keepEnv L env ∧ Trunc st0 env st L st') ∨ Ghost env st env' st'

def awC (C : Calls1) : ACode → Env → St → (Exit → Env → St → Prop) → Prop
  | .skip, env, st, K => K .normal env st
  | .region is none, env, st, K => awI C is env st (K .normal)
  | .region is (some deps), env, st, K => awD C is deps env st (K .normal)
  | .seq a b, env, st, K => awC C a env st fun e env' st' => match e with
    | .normal => awC C b env' st' K
    | e => K e env' st'
  | .cond c a b, env, st, K => match opdV env c with
    | .bool t => if t then awC C a env st K else awC C b env st K
    | _ => False
  | .block id b, env, st, K => awC C b env st fun e env' st' => match e with
    | .exit i => if i = id then K .normal env' st' else K (.exit i) env' st'
    | e => K e env' st'
  | .loop b, env, st, K => ∃ (I : Nat → Env → St → Prop) (n : Nat) (env1 : Env) (st1 : St), Ghost env st env1 st1 ∧ I n env1 st1 ∧ ∀ n env st, I n env st → awC C b env st fun e env' st' => match e with
    | .normal => ∃ n' env'' st'', n' < n ∧ Next st env' st' env'' st'' ∧ I n' env'' st''
    | e => K e env' st'
  | .exit id, env, st, K => K (.exit id) env st
  | .scope b, env, st, K => awC C b env st fun e env' st' => match e with
    | .goto _ => False
    | e => K e env' st'
  | .ret, env, st, K => K .ret env st

theorem insts_range {P : Program} {N : Nat} {M : List Nat} {ops : Array Oper} {is : List AIns} (h : compIns P N M ops = some is) : Insts P N ops (List.range ops.size) is := by
  obtain ⟨h1, h2⟩ := mapM_get h
  refine ⟨by simpa using h1.symm, fun n idx i hn hi => ?_⟩
  have hlt : n < is.length := (List.getElem?_eq_some_iff.1 hi).1
  have hlt' : n < ops.size := by simpa using (by omega : n < ops.toList.length)
  have hidx : idx = n := by
    rw [List.getElem?_range hlt'] at hn
    injection hn with hn
    exact hn.symm
  subst hidx
  exact ⟨ops[idx], by simp [hlt'], insOf (h2 idx ops[idx] i (by simp [hlt']) hi)⟩

theorem wp_loopN {P : Program} {Q : Exit → Act → World → Prop} {a : Act} {w : World} {c : Code} (I : Nat → Act → World → Prop) (n : Nat) (h₀ : I n a w)
    (round : ∀ n a w, I n a w → c.wp P (Exit.then (fun a' w' => ∃ n', n' < n ∧ I n' a' w') Q) a w) : (Code.loop c).wp P Q a w := by
  intro b k cs
  have key : ∀ n a w, I n a w → ∃ e a' w', Q e a' w' ∧ Arrives P (lone (b.at a (.code c :: .inLoop c :: k)) cs w) b k cs e a' w' := by
    intro n
    induction n using Nat.strongRecOn with
    | _ n ih =>
      intro a w hI
      obtain ⟨e, a₁, w₁, hq, harr⟩ := round n a w hI b (.inLoop c :: k) cs
      cases e with
      | normal =>
        obtain ⟨n', hlt, hI₁⟩ := hq
        obtain ⟨e₂, a₂, w₂, hq₂, harr₂⟩ := ih n' hlt a₁ w₁ hI₁
        exact ⟨e₂, a₂, w₂, hq₂, .of_steps (Steps.trans harr (.one step_inLoop)) harr₂⟩
      | exit id => exact ⟨_, a₁, w₁, hq, .pass (x := .inLoop c) rfl (fun _ _ => .inl (by simp)) harr⟩
      | goto l => exact ⟨_, a₁, w₁, hq, .pass (x := .inLoop c) rfl (fun _ _ => .inl (by simp)) harr⟩
      | ret => exact ⟨_, a₁, w₁, hq, .pass (x := .inLoop c) rfl (fun _ _ => .inl (by simp)) harr⟩
      | panic ch => exact ⟨_, a₁, w₁, hq, .pass (x := .inLoop c) rfl (fun _ _ => .inl (by simp)) harr⟩
      | outgrown => exact ⟨_, a₁, w₁, hq, .pass (x := .inLoop c) rfl (fun _ _ => .inl (by simp)) harr⟩
  obtain ⟨e, a', w', hq, harr⟩ := key n a w h₀
  exact ⟨e, a', w', hq, .of_steps (.one step_loop) harr⟩

/-- The meaning of 'awC', over the model's code. -/
def Awp (P : Program) (N n m : Nat) (c : Code) (env : Env) (st : St) (K : Exit → Env → St → Prop) : Prop :=
  ∀ (G0 : Gh) (w0 : World) (G : Gh) (w : World) (a : Act), At G0 w0 n m N G w env st a → c.wp P (Post G0 w0 n m N K) a w

theorem awC_sound {P : Program} {N n m : Nat} {M : List Nat} : ∀ (c : Code) (ac : ACode) (env : Env) (st : St) (K : Exit → Env → St → Prop), compCode P N M c = some ac → awC (ASpec P) ac env st K → Awp P N n m c env st K
  | .skip, ac, env, st, K, hc, h => by
    simp [compCode] at hc
    subst hc
    intro G0 w0 G w a hat
    exact wp_skip (hat.post (by intro c e; cases e) h)
  | .region id ops draw, ac, env, st, K, hc, h => by
    simp only [compCode] at hc
    cases hi : compIns P N M ops with
    | none => simp [hi] at hc
    | some is =>
      simp only [hi, Option.bind_some] at hc
      cases draw with
      | true =>
        simp only [if_true] at hc
        split at hc
        · rename_i hcond
          simp only [Bool.and_eq_true] at hcond
          injection hc with hc
          subst hc
          intro G0 w0 G w a hat
          simp only [awC] at h
          refine wp_region_draw (fun t => ?_)
          rw [hcond.2]
          have hv := schedule_valid hcond.1 t
          have hat' : At G0 w0 n m N G { w with drawn := w.drawn + 1 } env st a :=
            ⟨hat.inv.drawn _, hat.ext.trans (Ext.drawn G w (w.drawn + 1) n m) (Nat.le_refl _) (Nat.le_refl _), hat.hn, hat.hm, fun t => (hat.rel t).inv hat.inv (Ext.drawn G w _ _ _), hat.size, hat.defers⟩
          refine awI_sound (fun G w env st a hat' hk => hat'.post (by intro c e; cases e) hk) _ _ G _ env st a ?_ hat' (h _ hv)
          have hr := insts_range hi
          refine ⟨by simp, fun n idx i hn hi' => ?_⟩
          have hmem : idx ∈ List.range ops.size := by
            have := hv.perm.mem_iff.1 (List.mem_of_getElem? hn)
            simpa [depsOf] using this
          have hlt : idx < ops.size := List.mem_range.1 hmem
          have hil : idx < is.length := by have := hr.1; simp at this; omega
          rw [List.getElem?_map, hn] at hi'
          simp only [Option.map_some, Option.some.injEq] at hi'
          subst hi'
          refine hr.2 idx idx _ (by rw [List.getElem?_range hlt]) ?_
          simp [List.getD, hil]
        · cases hc
      | false =>
        simp only [Bool.false_eq_true, if_false] at hc
        injection hc with hc
        subst hc
        intro G0 w0 G w a hat
        simp only [awC] at h
        exact wp_region (awI_sound (fun G w env st a hat' hk => hat'.post (by intro c e; cases e) hk) is _ G w env st a (insts_range hi) hat h)
  | .seq x y, ac, env, st, K, hc, h => by
    simp only [compCode] at hc
    cases hx : compCode P N M x with
    | none => simp [hx] at hc
    | some x' =>
      cases hy : compCode P N M y with
      | none => simp [hx, hy] at hc
      | some y' =>
        simp [hx, hy] at hc
        subst hc
        intro G0 w0 G w a hat
        simp only [awC] at h
        have ih := awC_sound (n := n) (m := m) x x' env st _ hx h
        refine wp_seq (wp_mono (ih G0 w0 G w a hat) fun e a' w' hp => ?_)
        rcases hp with hp | ⟨p1, p2, p3, G', env', st', k1, k2, k3, k4, k5, k6⟩
        · exact hp.elim
        · cases e with
          | normal => exact awC_sound (n := n) (m := m) y y' env' st' K hy k1 G0 w0 G' w' a' ⟨k2, k3, k4, k5, k6, p2, p1⟩
          | panic c => exact absurd rfl (p3 c)
          | _ => exact .inr ⟨p1, p2, p3, G', env', st', k1, k2, k3, k4, k5, k6⟩
  | .cond c x y, ac, env, st, K, hc, h => by
    simp only [compCode] at hc
    cases ho : opdA c with
    | none => simp [ho] at hc
    | some c' =>
      cases hx : compCode P N M x with
      | none => simp [ho, hx] at hc
      | some x' =>
        cases hy : compCode P N M y with
        | none => simp [ho, hx, hy] at hc
        | some y' =>
          simp [ho, hx, hy] at hc
          subst hc
          intro G0 w0 G w a hat
          simp only [awC] at h
          have hrel := opds_rel (xs := [c]) (as := [c']) hat.rel (by simp [ho])
          have hv := hrel.2 0 _ _ rfl rfl
          split at h
          · rename_i t ht
            rw [ht] at hv
            generalize hcv : a.eval c = cv at hv
            cases hv
            refine wp_cond hcv ?_
            cases t with
            | true => exact awC_sound (n := n) (m := m) x x' env st K hx h G0 w0 G w a hat
            | false => exact awC_sound (n := n) (m := m) y y' env st K hy h G0 w0 G w a hat
          · exact h.elim
  | .block id b, ac, env, st, K, hc, h => by
    simp only [compCode] at hc
    cases hb : compCode P N M b with
    | none => simp [hb] at hc
    | some b' =>
      simp [hb] at hc
      subst hc
      intro G0 w0 G w a hat
      simp only [awC] at h
      have ih := awC_sound (n := n) (m := m) b b' env st _ hb h
      refine wp_block (wp_mono (ih G0 w0 G w a hat) fun e a' w' hp => ?_)
      rcases hp with hp | ⟨p1, p2, p3, G', env', st', k1, k2, k3, k4, k5, k6⟩
      · exact hp.elim
      · cases e with
        | exit i =>
          simp only [] at k1
          simp only [Exit.inBlock]
          split at k1
          · rename_i hid
            rw [if_pos hid]
            exact .inr ⟨p1, p2, nofun, G', env', st', k1, k2, k3, k4, k5, k6⟩
          · rename_i hid
            rw [if_neg hid]
            exact .inr ⟨p1, p2, p3, G', env', st', k1, k2, k3, k4, k5, k6⟩
        | _ => exact .inr ⟨p1, p2, p3, G', env', st', k1, k2, k3, k4, k5, k6⟩
  | .loop b, ac, env, st, K, hc, h => by
    simp only [compCode] at hc
    cases hb : compCode P N M b with
    | none => simp [hb] at hc
    | some b' =>
      simp [hb] at hc
      subst hc
      intro G0 w0 G w a hat
      simp only [awC] at h
      obtain ⟨I, k, env1, st1, hgh, hk, hstep⟩ := h
      obtain ⟨g1, g2, g3⟩ := hgh
      obtain ⟨G1, i1, x1, t1⟩ := g3 G w a.tmps hat.inv hat.rel
      have hat1 : At G0 w0 n m N G1 w env1 st1 a := ⟨i1, hat.ext.trans x1 hat.hn hat.hm, Nat.le_trans hat.hn g1, Nat.le_trans hat.hm g2, t1, hat.size, hat.defers⟩
      refine wp_loopN (fun k a w => ∃ G env st, At G0 w0 n m N G w env st a ∧ I k env st) k ⟨G1, env1, st1, hat1, hk⟩ fun k a w hI => ?_
      obtain ⟨G1, env1, st1, hat1, hI1⟩ := hI
      have ih := awC_sound (n := n) (m := m) b b' env1 st1 _ hb (hstep k env1 st1 hI1)
      refine wp_mono (ih G0 w0 G1 w a hat1) fun e a' w' hp => ?_
      rcases hp with hp | ⟨p1, p2, p3, G', env', st', k1, k2, k3, k4, k5, k6⟩
      · exact hp.elim
      · cases e with
        | normal =>
          obtain ⟨n', env2, st2, hlt, hnx, hI'⟩ := k1
          rcases hnx with ⟨L, rfl, ⟨t1, ⟨g, t2⟩, ⟨gt, t3⟩, t4, t5, t6⟩⟩ | ⟨g1, g2, g3⟩
          · have hn2 : n ≤ st2.heap.length := by rw [← t4]; exact hat1.hn
            have hm2 : m ≤ st2.toks.length := by rw [← t5]; exact hat1.hm
            refine ⟨n', hlt, (G'.restrict st2.heap.length st2.toks.length), keepEnv L env', st2, ?_, hI'⟩
            obtain ⟨i3, e3⟩ := hat1.inv.truncate (st := st2) k2 k3 hn2 hm2 t4 t5 t2.symm t3.symm t6
            refine ⟨i3, e3, hn2, hm2, fun t => ?_, p2, p1⟩
            · simp only [keepEnv]
              split
              · rename_i ht
                exact (k6 t).restrict (t1 t ht)
              · exact .any _
          · obtain ⟨G2, i2, x2, t2⟩ := g3 G' w' a'.tmps k2 k6
            exact ⟨n', hlt, G2, env2, st2, ⟨i2, k3.trans x2 k4 k5, Nat.le_trans k4 g1, Nat.le_trans k5 g2, t2, p2, p1⟩, hI'⟩
        | panic c => exact absurd rfl (p3 c)
        | _ => exact .inr ⟨p1, p2, p3, G', env', st', k1, k2, k3, k4, k5, k6⟩
  | .exit id, ac, env, st, K, hc, h => by
    simp [compCode] at hc
    subst hc
    intro G0 w0 G w a hat
    exact wp_exit (hat.post (by intro c e; cases e) h)
  | .ret, ac, env, st, K, hc, h => by
    simp [compCode] at hc
    subst hc
    intro G0 w0 G w a hat
    exact wp_ret (hat.post (by intro c e; cases e) h)
  | .rangeFunc .., ac, env, st, K, hc, h => by simp [compCode] at hc
  | .scope b, ac, env, st, K, hc, h => by
    simp only [compCode] at hc
    cases hb : compCode P N M b with
    | none => simp [hb] at hc
    | some b' =>
      simp [hb] at hc
      subst hc
      intro G0 w0 G w a hat
      simp only [awC] at h
      have ih := awC_sound (n := n) (m := m) b b' env st _ hb h
      refine wp_scope_straight (wp_mono (ih G0 w0 G w a hat) fun e a' w' hp => ?_)
      rcases hp with hp | ⟨p1, p2, p3, G', env', st', k1, k2, k3, k4, k5, k6⟩
      · exact hp.elim
      · cases e with
        | goto l => exact k1.elim
        | panic c => exact absurd rfl (p3 c)
        | _ => exact .inr ⟨p1, p2, p3, G', env', st', k1, k2, k3, k4, k5, k6⟩
  | .label _, ac, env, st, K, hc, h => by
    simp [compCode] at hc
    subst hc
    intro G0 w0 G w a hat
    exact wp_label (hat.post (by intro c e; cases e) h)
  | .goto _, ac, env, st, K, hc, h => by simp [compCode] at hc
  | .refuse _, ac, env, st, K, hc, h => by simp [compCode] at hc

end Go.Am

/- The abstract machine's functions: a call's contract out of what its body does. -/
import Derived.Test.YtbmcgfdopaaiiaaZAmWp3
set_option linter.all false
namespace Go.Am

/-! Functions. -/

inductive RV where
  | tmp (t : Nat)
  | cell (a : Nat) (sz : Option Nat)
  deriving Inhabited

def rvOf (P : Program) : ResultVar → Option RV
  | .tmp t => some (.tmp t)
  | .cell a t => (szOf P t).map (.cell a)

def resV (env : Env) (st : St) : RV → Option AV
  | .tmp t => some (env t)
  | .cell a sz => evR (.load sz) [env a] st

def resL (env : Env) (st : St) : List RV → Option (List AV)
  | [] => some []
  | r :: rs => (resV env st r).bind fun v => (resL env st rs).map fun vs => v :: vs

def one : List AV → AV
  | [v] => v
  | vs => .tup vs

/-- What a call hands back as it is, tokens and all; what it made, and nobody names, is forgotten. -/
def finishR (st0 : St) (vs : List AV) (st : St) (R : AV → St → Prop) : Prop :=
  (st0.heap.length ≤ st.heap.length ∧ st0.toks.length ≤ st.toks.length ∧ R (one vs) st) ∨ ∃ st2, st2.heap <+: st.heap ∧ st2.toks <+: st.toks ∧ st0.heap.length = st2.heap.length ∧ st0.toks.length = st2.toks.length ∧
    (∀ (l : Nat) (b : Blk), st2.heap[l]? = some b → st0.heap[l]? = some b ∨ okBlk st2.heap.length st2.toks.length b = true) ∧ okL st2.heap.length st2.toks.length vs = true ∧ R (one vs) st2

/-- .. or frozen. -/
def finish (st0 : St) (vs : List AV) (st : St) (R : AV → St → Prop) : Prop :=
  ∃ vs' st', frzs vs st = some (vs', st') ∧
    ((∃ g gt, st'.heap = st0.heap ++ g ∧ st'.toks = st0.toks ++ gt ∧ okL st0.heap.length st0.toks.length vs' = true ∧ R (one vs') st0) ∨ (st0.heap.length ≤ st'.heap.length ∧ st0.toks.length ≤ st'.toks.length ∧ R (one vs') st') ∨ finishR st0 vs' st' R)

structure IsFun (P : Program) (f : Nat) (np N : Nat) (ac : ACode) (rs : List RV) : Prop where
  np_le : np ≤ N
  ex : ∃ fn code M, P.funcs[f]? = some fn ∧ fn.body = some code ∧ fn.name ≠ "runtime.NumGoroutine" ∧ fn.ntmps = N ∧ compCode P N M code = some ac ∧ fn.results.toList.mapM (rvOf P) = some rs

def env0 (args : List AV) : Env := fun t => args.getD t (.tup [])

def resRun (tmps : Array Value) (r : ResultVar) : Sem Value :=
  match r with
  | .tmp t => pure (tmps.getD t undef)
  | .cell a t => do loadVar t (← asAddr (tmps.getD a undef))

theorem results_eq (fn : Func) (tmps : Array Value) : results fn tmps = (do let vs ← fn.results.mapM (resRun tmps); pure (if h : vs.size = 1 then vs[0] else .tuple vs)) := rfl

theorem run_results {P : Program} {G : Gh} {w : World} {st : St} {env : Env} {tmps : Array Value} (hI : Inv G w st) (hT : TRel G w env tmps) : ∀ {rvs : List ResultVar} {rs : List RV} {vs : List AV}, rvs.mapM (rvOf P) = some rs → resL env st rs = some vs →
    ∃ ys : List Value, (rvs.mapM (resRun tmps)).run P w = .ok ys w ∧ ListRel G w vs ys
  | [], rs, vs, hm, hr => by
    simp at hm
    subst hm
    simp [resL] at hr
    subst hr
    exact ⟨[], rfl, rfl, by simp⟩
  | rv :: rvs, rs, vs, hm, hr => by
    simp only [List.mapM_cons, Option.bind_eq_bind] at hm
    cases h1 : rvOf P rv with
    | none => simp [h1] at hm
    | some r =>
      cases h2 : rvs.mapM (rvOf P) with
      | none => simp [h1, h2] at hm
      | some rs' =>
        simp [h1, h2] at hm
        subst hm
        simp only [resL] at hr
        cases h3 : resV env st r with
        | none => simp [h3] at hr
        | some v =>
          cases h4 : resL env st rs' with
          | none => simp [h3, h4] at hr
          | some vs' =>
            simp [h3, h4] at hr
            subst hr
            obtain ⟨ys, q1, q2⟩ := run_results hI hT h2 h4
            have hy : ∃ y, (resRun tmps rv).run P w = .ok y w ∧ VRel G w v y := by
              cases rv with
              | tmp t =>
                simp [rvOf] at h1
                subst h1
                simp [resV] at h3
                subst h3
                exact ⟨_, rfl, hT t⟩
              | cell a t =>
                cases hs : szOf P t with
                | none => simp [rvOf, hs] at h1
                | some sz =>
                  simp [rvOf, hs] at h1
                  subst h1
                  simp only [resV] at h3
                  obtain ⟨y, r1, r2⟩ := load_sound (P := P) hs hI (hT a) h3
                  refine ⟨y, ?_, r2⟩
                  simp only [resRun]
                  generalize tmps.getD a undef = x at r1
                  cases x <;> simp [Instr.loadAt, Instr.sureAddr] at r1
                  rename_i p
                  cases p <;> simp at r1
                  simp [asAddr, r1]
            obtain ⟨y, p1, p2⟩ := hy
            refine ⟨y :: ys, ?_, by simp [q2.1], fun i c u hc hu => ?_⟩
            · rw [List.mapM_cons]
              simp only [Sem.run_bind]
              rw [p1]
              simp only [Result.andThen]
              rw [q1]
              rfl
            · cases i with
              | zero => simp at hc hu; subst hc; subst hu; exact p2
              | succ i => exact q2.2 i c u (by simpa using hc) (by simpa using hu)

theorem callFunc_enter {P : Program} {f : Nat} {fn : Func} {code : Code} (hf : P.funcs[f]? = some fn) (hb : fn.body = some code) (hn : fn.name ≠ "runtime.NumGoroutine") (vs : Array Value) (w : World) : (callFunc f vs).run P w = .ok (.enter f vs) w := by
  simp only [callFunc, Sem.run_bind, run_program, Result.andThen, hf]
  have : (fn.name == "runtime.NumGoroutine") = false := by simpa using hn
  simp [this, hb]

theorem aspec_of {P : Program} {f np N : Nat} {ac : ACode} {rs : List RV} {args : List AV} {st : St} {R : AV → St → Prop} (hF : IsFun P f np N ac rs) (hnp : args.length = np)
    (h : awC (ASpec P) ac (env0 args) st fun e env' st' => (e = .normal ∨ e = .ret) ∧ ∃ vs, resL env' st' rs = some vs ∧ (finish st vs st' R ∨ finishR st vs st' R)) : ASpec P f args st R := by
  obtain ⟨hle, fn, code, M, hf, hb, hn, hN, hc, hrs⟩ := hF
  refine ⟨callFunc_enter hf hb hn, fun G w vs hI hv => ?_⟩
  refine calls_of_wp hf hb ?_
  have hat : At G w st.heap.length st.toks.length N G w (env0 args) st { tmps := vs ++ Array.replicate (fn.ntmps - vs.size) undef, defers := [] } := by
    have hl := hv.1
    simp only [Array.length_toList] at hl
    refine ⟨hI, Ext.refl _ _ _ _, Nat.le_refl _, Nat.le_refl _, fun t => ?_, by simp; omega, rfl⟩
    simp only [env0, List.getD]
    cases ht : args[t]? with
    | none =>
      have hge : args.length ≤ t := by
        rcases Nat.lt_or_ge t args.length with h | h
        · simp [h] at ht
        · exact h
      have : (vs ++ Array.replicate (fn.ntmps - vs.size) undef).getD t undef = undef := by
        simp only [Array.getD]
        split
        · rw [Array.getInternal_eq_getElem, Array.getElem_append_right (by omega)]
          simp
        · rfl
      rw [this]
      exact .tup _ _ rfl (by simp)
    | some v =>
      have hlt := (List.getElem?_eq_some_iff.1 ht).1
      have hlt' : t < vs.size := by omega
      have : (vs ++ Array.replicate (fn.ntmps - vs.size) undef).getD t undef = vs[t] := by
        simp only [Array.getD]
        rw [dif_pos (by simp; omega), Array.getInternal_eq_getElem, Array.getElem_append_left hlt']
      rw [this]
      exact hv.2 t v vs[t] ht (by simp [hlt'])
  have hw := awC_sound (n := st.heap.length) (m := st.toks.length) code ac (env0 args) st _ hc h G w G w _ hat
  refine wp_mono hw fun e a' w' hp => ?_
  rcases hp with hp | ⟨p1, p2, p3, G', env', st', ⟨k1, vs1, k2, kfin⟩, k5, k6, k7, k8, k9⟩
  · exact hp.elim
  · have fin : ∃ v, (results fn a'.tmps).run P w' = .ok v w' ∧ ∃ G' v1 st', R v1 st' ∧ Inv G' w' st' ∧ Ext G w G' w' st.heap.length st.toks.length ∧ VRel G' w' v1 v ∧ st.heap.length ≤ st'.heap.length ∧ st.toks.length ≤ st'.toks.length := by
      obtain ⟨ys, q1, q2⟩ := run_results (P := P) k5 k9 hrs k2
      have hone : ∀ {G : Gh} {vs : List AV} {ys : List Value}, ListRel G w' vs ys → VRel G w' (one vs) (if h : ys.toArray.size = 1 then ys.toArray[0] else .tuple ys.toArray) := by
        intro G vs ys hr
        match vs, ys, hr with
        | [], [], hr => exact .tup _ _ rfl (by simp)
        | [v], [y], hr => exact hr.2 0 v y rfl rfl
        | v :: v' :: vs, y :: y' :: ys, hr =>
          have := VRel.tup (G := G) (w := w') (v :: v' :: vs) (y :: y' :: ys).toArray (by simpa using hr.1) (fun i c u hc hu => hr.2 i c u hc (by simpa using hu))
          simpa [one] using this
        | [], _ :: _, hr => have := hr.1; simp at this
        | _ :: _, [], hr => have := hr.1; simp at this
        | [_], _ :: _ :: _, hr => have := hr.1; simp at this
        | _ :: _ :: _, [_], hr => have := hr.1; simp at this
      refine ⟨(if h : ys.toArray.size = 1 then ys.toArray[0] else .tuple ys.toArray), ?_, ?_⟩
      · rw [results_eq]
        simp only [Sem.run_bind, Array.mapM_eq_mapM_toList, Sem.run_map]
        rw [q1]
        rfl
      · rcases kfin with ⟨vs2, st2, k3, k4⟩ | ⟨f1, f2, f3⟩ | ⟨st2, f1, f2, f3, f4, f5, f6, f7⟩
        · obtain ⟨G2, i2, e2, r2, l2, t2⟩ := frzs_sound k5 q2 k3
          have eAll := k6.trans e2 k7 k8
          rcases k4 with ⟨g, gt, g1, g2, g3, g4⟩ | ⟨g1, g2, g3⟩ | ⟨g1, g2, g3⟩ | ⟨st3, f1, f2, f3, f4, f5, f6, f7⟩
          · obtain ⟨i3, e3⟩ := hI.truncate (st := st) i2 eAll (Nat.le_refl _) (Nat.le_refl _) rfl rfl g1 g2 (fun l b h => .inl h)
            refine ⟨_, _, st, g4, i3, e3, ?_, Nat.le_refl _, Nat.le_refl _⟩
            refine hone ⟨r2.1, fun i c u hc hu => (r2.2 i c u hc hu).restrict (okL_get g3 hc)⟩
          · exact ⟨G2, _, st2, g3, i2, eAll, hone r2, g1, g2⟩
          · exact ⟨G2, _, st2, g3, i2, eAll, hone r2, g1, g2⟩
          · obtain ⟨g, g1⟩ := f1
            obtain ⟨gt, g2⟩ := f2
            obtain ⟨i3, e3⟩ := hI.truncate (st := st3) i2 eAll (by omega) (by omega) f3 f4 g1.symm g2.symm f5
            refine ⟨_, _, st3, f7, i3, e3, ?_, by omega, by omega⟩
            exact hone ⟨r2.1, fun i c u hc hu => (r2.2 i c u hc hu).restrict (okL_get f6 hc)⟩
        · exact ⟨G', _, st', f3, k5, k6, hone q2, f1, f2⟩
        · obtain ⟨g, g1⟩ := f1
          obtain ⟨gt, g2⟩ := f2
          obtain ⟨i3, e3⟩ := hI.truncate (st := st2) k5 k6 (by omega) (by omega) f3 f4 g1.symm g2.symm f5
          refine ⟨_, _, st2, f7, i3, e3, ?_, by omega, by omega⟩
          exact hone ⟨q2.1, fun i c u hc hu => (q2.2 i c u hc hu).restrict (okL_get f6 hc)⟩
    obtain ⟨v, q1, q2⟩ := fin
    rcases k1 with rfl | rfl
    · exact ⟨p1, v, q1, q2⟩
    · exact ⟨p1, v, q1, q2⟩

end Go.Am

/- The abstract machine's code: regions, as the text orders them. -/
import Derived.Test.YtbmcgfdopaaiiaaZAmWp
set_option linter.all false
namespace Go.Am

theorem frz1_sound {G : Gh} {w : World} {st st' : St} {v v' : AV} {y : Value} (hI : Inv G w st) (hv : VRel G w v y) (h : frz1 v st = some (v', st')) :
    ∃ G', Inv G' w st' ∧ Ext G w G' w st.heap.length st.toks.length ∧ VRel G' w v' y ∧ st'.heap.length = st.heap.length ∧ st'.toks = st.toks := by
  unfold frz1 at h
  split at h
  · rename_i l off len sz
    split at h
    · rename_i fz vs hl
      split at h
      · rename_i hc
        injection h with h
        injection h with e1 e2
        subst e1; subst e2
        cases hv with
        | msl _ _ _ _ B cap z m1 m2 m3 m4 =>
          obtain ⟨B', p1, p2⟩ := hI.blk l _ hl
          rw [m1] at p1
          injection p1 with p1
          subst p1
          have hca := p2.cellsAt
          obtain ⟨i1, e1⟩ := hI.freezeBlk hl m1
          refine ⟨_, i1, e1, ?_, by simp, rfl⟩
          obtain ⟨k1, k2⟩ := chunk_flat (sz := sz) len (vs.drop off) (by simp; omega) (fun _ x hx => by
            obtain ⟨i, hi, rfl⟩ := List.mem_iff_getElem.1 (List.mem_of_mem_drop hx)
            obtain ⟨u, _, v1, v2⟩ := hca i _ (List.getElem?_eq_getElem hi)
            exact scalar_cells v1 v2)
          have hcl : (chunk sz len (vs.drop off)).length = len := chunk_length _ _ _
          have key : ∀ (j : Nat) (c : AV), (flat (chunk sz len (vs.drop off)))[j]? = some c → vs[off + j]? = some c := fun j c hj => by
            rw [k2, List.getElem?_take, List.getElem?_drop] at hj
            split at hj
            · exact hj
            · cases hj
          have := VRel.sl (G := G.addImm fun b o => b = B ∧ o < vs.length) (w := w) .any (chunk sz len (vs.drop off)) B off cap (sz.getD 1) (fun j => (w.cell? ⟨B, off + j, none⟩).getD undef) k1 (by rw [hcl]; exact m2)
            (fun j c hj => by
              have hj' := key j c hj
              obtain ⟨u, u1, u2, u3⟩ := hca _ c hj'
              rw [Nat.zero_add] at u1
              exact ⟨.inr ⟨rfl, (List.getElem?_eq_some_iff.1 hj').1⟩, by simp [u1], by simpa [u1] using u3⟩)
            (fun j c hj => by
              have hj' := key j c hj
              obtain ⟨u, u1, u2, u3⟩ := hca _ c hj'
              rw [Nat.zero_add] at u1
              simpa [u1] using u2.inv hI e1) trivial
          rw [hcl] at this
          exact this
      · cases h
    · cases h
  · injection h with h
    injection h with e1 e2
    subst e1; subst e2
    exact ⟨G, hI, Ext.refl _ _ _ _, hv.norm, rfl, rfl⟩

theorem frzs_sound {w : World} : ∀ {vs : List AV} {ys : List Value} {G : Gh} {st st' : St} {vs' : List AV}, Inv G w st → ListRel G w vs ys → frzs vs st = some (vs', st') →
    ∃ G', Inv G' w st' ∧ Ext G w G' w st.heap.length st.toks.length ∧ ListRel G' w vs' ys ∧ st'.heap.length = st.heap.length ∧ st'.toks = st.toks
  | [], ys, G, st, st', vs', hI, hr, h => by
    simp [frzs] at h
    obtain ⟨rfl, rfl⟩ := h
    exact ⟨G, hI, Ext.refl _ _ _ _, hr, rfl, rfl⟩
  | v :: vs, ys, G, st, st', vs', hI, hr, h => by
    cases ys with
    | nil => have := hr.1; simp at this
    | cons y ys =>
      obtain ⟨x, xs, e, hx, hr'⟩ := hr.cons_inv
      injection e with e1 e2
      subst e1; subst e2
      simp only [frzs] at h
      cases h1 : frz1 v st with
      | none => simp [h1] at h
      | some p =>
        obtain ⟨v1, st1⟩ := p
        cases h2 : frzs vs st1 with
        | none => simp [h1, h2] at h
        | some q =>
          obtain ⟨vs2, st2⟩ := q
          simp [h1, h2] at h
          obtain ⟨rfl, rfl⟩ := h
          obtain ⟨G1, i1, e1, v1', l1, t1⟩ := frz1_sound hI hx h1
          have hr1 : ListRel G1 w vs ys := ⟨hr'.1, fun i c u hc hu => (hr'.2 i c u hc hu).inv hI e1⟩
          obtain ⟨G2, i2, e2, r2, l2, t2⟩ := frzs_sound i1 hr1 h2
          refine ⟨G2, i2, e1.trans e2 (by omega) (by rw [t1]; exact Nat.le_refl _), ?_, by omega, by rw [t2, t1]⟩
          refine ⟨by simp [r2.1], fun i c u hc hu => ?_⟩
          cases i with
          | zero => simp at hc hu; subst hc; subst hu; exact v1'.inv i1 e2
          | succ i => exact r2.2 i c u (by simpa using hc) (by simpa using hu)

/-- What holds behind a piece of code. -/
def Post (G : Gh) (w : World) (n m N : Nat) (K : Exit → Env → St → Prop) : Exit → Act → World → Prop := fun e a' w' =>
  False ∨ (a'.defers = [] ∧ N ≤ a'.tmps.size ∧ (∀ c, e ≠ .panic c) ∧ ∃ G' env' st', K e env' st' ∧ Inv G' w' st' ∧ Ext G w G' w' n m ∧ n ≤ st'.heap.length ∧ m ≤ st'.toks.length ∧ TRel G' w' env' a'.tmps)

theorem Post.ext {G G1 : Gh} {w w1 : World} {n m N : Nat} {K : Exit → Env → St → Prop} (h : Ext G w G1 w1 n m) {e : Exit} {a : Act} {w' : World} (hp : Post G1 w1 n m N K e a w') : Post G w n m N K e a w' := by
  rcases hp with hp | ⟨h1, h2, h3, G', env', st', k1, k2, k3, k4⟩
  · exact .inl hp
  · exact .inr ⟨h1, h2, h3, G', env', st', k1, k2, h.trans k3 (Nat.le_refl _) (Nat.le_refl _), k4⟩

theorem NOk.lens {P : Program} {G : Gh} {w : World} {st : St} {op : AOp} {args : List AV} {v : AV} {st' : St} (h : evA op args st = some (v, st')) : st.heap.length ≤ st'.heap.length ∧ st.toks.length ≤ st'.toks.length := by
  unfold evA at h
  split at h
  · cases hp : evP op args with
    | none => simp [hp] at h
    | some u => simp [hp] at h; rw [← h.2]; exact ⟨Nat.le_refl _, Nat.le_refl _⟩
  · cases hp : evR op args st with
    | none => simp [hp] at h
    | some u => simp [hp] at h; rw [← h.2]; exact ⟨Nat.le_refl _, Nat.le_refl _⟩
  · unfold evW at h
    split at h
    all_goals
      (repeat' split at h) <;> first
        | (cases h; done)
        | (simp at h; rw [← h.2]; simp; done)
  · unfold evT at h
    split at h
    · split at h <;> first | (cases h; done) | skip
      split at h <;> first | (cases h; done) | skip
      split at h <;> first | (cases h; done) | skip
      · simp at h; rw [← h.2]; simp
      · split at h <;> first | (cases h; done) | skip
        split at h <;> first | (cases h; done) | skip
        simp at h; rw [← h.2]; simp
    · cases h

/-- An instruction and the operation that it is compiled from. -/
structure InsOf (P : Program) (N : Nat) (ops : Array Oper) (o : Oper) (i : AIns) : Prop where
  comp : ∃ k xs, compOp P o.op = some (k, xs) ∧ xs.mapM opdA = some i.args ∧ (i.kind = k ∨ ∃ op0 op, Alt o.op op0 op ∧ k = .prim op0 ∧ i.kind = .prim op)
  dst : o.dst = i.dst ∧ ∀ t, i.dst = some t → t < N
  guard : match o.guard with | none => i.guard = none | some (j, want) => ∃ t, (ops[j]?).bind (·.dst) = some t ∧ i.guard = some (t, want)

theorem markK_cases (M : List Nat) (o : Op) (dst : Option Nat) (k : Kind) : markK M o dst k = k ∨ ∃ op0 op, Alt o op0 op ∧ k = .prim op0 ∧ markK M o dst k = .prim op := by
  unfold markK
  split
  · split
    · exact .inr ⟨_, _, .app _ _, rfl, rfl⟩
    · exact .inl rfl
  · split
    · exact .inr ⟨_, _, .box _ _ _, rfl, rfl⟩
    · exact .inl rfl
  · exact .inl rfl

theorem insOf {P : Program} {N : Nat} {M : List Nat} {ops : Array Oper} {o : Oper} {i : AIns} (h : compOper P N M ops o = some i) : InsOf P N ops o i := by
  unfold compOper at h
  cases hc : compOp P o.op with
  | none => simp [hc] at h
  | some kx =>
    obtain ⟨k, xs⟩ := kx
    cases hm : xs.mapM opdA with
    | none => simp [hc, hm] at h
    | some as =>
      simp only [hc, hm, Option.bind_some] at h
      split at h
      · rename_i hd
        have hdst : ∀ t, o.dst = some t → t < N := fun t ht => by rw [ht] at hd; simpa [dstOk] using hd
        split at h
        · rename_i hg
          injection h with h
          subst h
          exact ⟨⟨k, xs, hc, hm, markK_cases M o.op o.dst k⟩, ⟨rfl, hdst⟩, by rw [hg]⟩
        · rename_i j want hg
          cases ht : (ops[j]?).bind (·.dst) with
          | none => simp [ht] at h
          | some t =>
            simp [ht] at h
            subst h
            exact ⟨⟨k, xs, hc, hm, markK_cases M o.op o.dst k⟩, ⟨rfl, hdst⟩, by rw [hg]; exact ⟨t, ht, rfl⟩⟩
      · cases h

theorem comp_call {P : Program} {o : Op} {f : Nat} {xs : List Operand} (h : compOp P o = some (.call f, xs)) : ∃ args argTypes, o = .call { callee := .value (.func f), args, argTypes } ∧ xs = args.toList := by
  unfold compOp at h
  split at h
  · injection h with h
    injection h with h1 h2
    injection h1 with h1
    subst h1
    exact ⟨_, _, rfl, h2.symm⟩
  · injection h with h
    injection h with h1 h2
    cases h1
  · split at h
    · injection h with h
      injection h with h1 h2
      cases h1
    · cases h

theorem comp_callV {P : Program} {o : Op} {xs : List Operand} (h : compOp P o = some (.callV, xs)) : ∃ g args argTypes, o = .call { callee := .value g, args, argTypes } ∧ xs = g :: args.toList := by
  unfold compOp at h
  split at h
  · injection h with h
    injection h with h1 h2
    cases h1
  · injection h with h
    injection h with h1 h2
    exact ⟨_, _, _, rfl, h2.symm⟩
  · split at h
    · injection h with h
      injection h with h1 h2
      cases h1
    · cases h

theorem comp_prim {P : Program} {o : Op} {op : AOp} {xs : List Operand} (h : compOp P o = some (.prim op, xs)) : compP P o = some (.prim op, xs) := by
  unfold compOp at h
  split at h
  · injection h with h
    injection h with h1 h2
    cases h1
  · injection h with h
    injection h with h1 h2
    cases h1
  · split at h
    · rename_i hh
      rw [hh]; exact h
    · cases h

end Go.Am

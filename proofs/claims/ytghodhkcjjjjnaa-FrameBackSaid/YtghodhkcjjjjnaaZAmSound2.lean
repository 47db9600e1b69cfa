/- The abstract machine's operations are sound: what only computes. -/
import Derived.Test.YtghodhkcjjjjnaaZAmSound1
import Derived.Laws.Strings
set_option linter.all false
namespace Go.Am

def SOk (P : Program) (G : Gh) (w : World) (st : St) (s : Sem Value) (v : AV) (st' : St) : Prop :=
  ∃ y w' G', s.run P w = .ok y w' ∧ Inv G' w' st' ∧ Ext G w G' w' st.heap.length st.toks.length ∧ VRel G' w' v y

theorem SOk.same {P : Program} {G : Gh} {w : World} {st : St} {s : Sem Value} {v : AV} {y : Value} (hI : Inv G w st) (hr : s.run P w = .ok y w) (hv : VRel G w v y) : SOk P G w st s v st :=
  ⟨y, w, G, hr, hI, Ext.refl _ _ _ _, hv⟩

theorem intBin_sound {P : Program} {G : Gh} {w : World} {op : BinOp} {k : IntKind} {x y : Int} {v : AV} (t : TypeId) (h : intBin op k x y = some v) : ∃ u, (binOp op t (.int k x) (.int k y)).run P w = .ok u w ∧ VRel G w v u := by
  cases op <;> simp only [intBin] at h <;> (try (split at h)) <;> (try (cases h; done)) <;> injection h with h <;> subst h <;>
    simp only [binOp, ne_eq, not_true_eq_false, if_false] <;> simp_all [Op.intArith, Op.intDiv, Op.intBits, Op.intCmp] <;> constructor

theorem shiftBin_sound {P : Program} {G : Gh} {w : World} {op : BinOp} {k k' : IntKind} {x y : Int} {v : AV} (t : TypeId) (ho : op = .shl ∨ op = .shr) (h : shiftBin op k x y = some v) : ∃ u, (binOp op t (.int k x) (.int k' y)).run P w = .ok u w ∧ VRel G w v u := by
  rcases ho with rfl | rfl <;> simp only [shiftBin] at h <;> split at h <;> (try (cases h; done)) <;> injection h with h <;> subst h <;>
    exact ⟨_, by simp only [binOp, Op.shift]; rw [if_neg (by assumption)]; rfl, .int _ _⟩

theorem str_eta {l : List UInt8} {s : ByteArray} (h : s.data.toList = l) : s = ⟨l.toArray⟩ := by
  subst h
  cases s
  simp

theorem VRel.str' {G : Gh} {w : World} (l : List UInt8) : VRel G w (.str l) (.string ⟨l.toArray⟩) := by
  have := VRel.str (G := G) (w := w) ⟨l.toArray⟩
  simpa using this

theorem VRel.str_inv {G : Gh} {w : World} {l : List UInt8} {y : Value} (h : VRel G w (.str l) y) : y = .string ⟨l.toArray⟩ := by
  cases h with
  | str s => simp

theorem toList_mk (l : List UInt8) : (⟨l.toArray⟩ : ByteArray).toList = l := by
  have : ∀ (b : ByteArray), b.toList = b.data.toList := fun b => by
    exact ByteArray.toList_eq b
  simpa using this ⟨l.toArray⟩

theorem strBin_sound {P : Program} {G : Gh} {w : World} {op : BinOp} {x y : List UInt8} {v : AV} (t : TypeId) (h : strBin op x y = some v) : ∃ u, (binOp op t (.string ⟨x.toArray⟩) (.string ⟨y.toArray⟩)).run P w = .ok u w ∧ VRel G w v u := by
  have hx := toList_mk x
  have hy := toList_mk y
  have hs : ∀ l : List UInt8, (⟨l.toArray⟩ : ByteArray).size = l.length := fun l => by simp [ByteArray.size]
  cases op <;> simp only [strBin] at h <;> (try (split at h)) <;> (try (cases h; done)) <;> injection h with h <;> subst h
  · rename_i hn
    refine ⟨.string (⟨x.toArray⟩ ++ ⟨y.toArray⟩), ?_, ?_⟩
    · simp only [binOp, Op.stringOp, hs]
      rw [if_neg hn]
      rfl
    · have := VRel.str (G := G) (w := w) (⟨x.toArray⟩ ++ ⟨y.toArray⟩)
      simpa using this
  all_goals
    simp only [binOp, Op.stringOp, hx, hy]
    exact ⟨_, rfl, .bool _⟩


theorem run_equalIn_bool {P : Program} (w : World) {t : TypeId} (h : P.underlying t = some .bool) (d : Nat) (a b : Bool) : (Op.equalIn (d + 1) t (.bool a) (.bool b)).run P w = .ok (a == b) w := by
  simp [Op.equalIn, run_underlying h]

theorem run_equalIn_int {P : Program} (w : World) {t : TypeId} {k : IntKind} (h : P.underlying t = some (.int k)) (d : Nat) (k' : IntKind) (a b : Int) : (Op.equalIn (d + 1) t (.int k' a) (.int k' b)).run P w = .ok (a == b) w := by
  simp [Op.equalIn, run_underlying h]

theorem run_equalIn_string {P : Program} (w : World) {t : TypeId} (h : P.underlying t = some .string) (d : Nat) (a b : ByteArray) : (Op.equalIn (d + 1) t (.string a) (.string b)).run P w = .ok (a == b) w := by
  simp [Op.equalIn, run_underlying h]

theorem run_equalIn_ptr {P : Program} (w : World) {t e : TypeId} (h : P.underlying t = some (.pointer e)) (d : Nat) {a b : Option Addr} (hn : a = none ∨ b = none) : (Op.equalIn (d + 1) t (.pointer a) (.pointer b)).run P w = .ok (a.isNone && b.isNone) w := by
  cases a <;> cases b <;> simp [Op.equalIn, run_underlying h] at hn ⊢

theorem isNilAddr_rel {G : Gh} {w : World} {x : AV} {y : Value} {r : Bool} (h : isNilAddr x = some r) (hv : VRel G w x y) : ∃ a, y = .pointer a ∧ a.isNone = r := by
  cases hv <;> simp [isNilAddr] at h <;> subst h <;> exact ⟨_, rfl, rfl⟩

theorem beq_bytes (a b : List UInt8) : ((⟨a.toArray⟩ : ByteArray) == ⟨b.toArray⟩) = (a == b) := by
  show ((a.toArray == b.toArray)) = (a == b)
  simp

theorem eqCell_sound {P : Program} {G : Gh} {w : World} {x y : AV} {a b : Value} {r : Bool} {k : Nat} {t : TypeId} (d : Nat) (hk : flatKind P t = some k) (h : eqCell k x y = some r) (hx : VRel G w x a) (hy : VRel G w y b) :
    (Op.equalIn (d + 1) t a b).run P w = .ok r w := by
  unfold flatKind at hk
  unfold eqCell at h
  split at h
  · cases hx; cases hy
    split at h
    · rename_i k n k' n' hk
      subst hk
      injection h with h
      subst h
      split at hk <;> first | (injection hk with hk; cases hk; done) | skip
      · exact run_equalIn_int w (by assumption) d _ _ _
      · cases hk
    · cases h
  · cases hx; cases hy
    injection h with h
    subst h
    split at hk <;> first | (injection hk with hk; cases hk; done) | skip
    · exact run_equalIn_bool w (by assumption) d _ _
    · cases hk
  · rw [hx.str_inv, hy.str_inv]
    injection h with h
    subst h
    split at hk <;> first | (injection hk with hk; cases hk; done) | skip
    · rw [run_equalIn_string w (by assumption) d, beq_bytes]
    · cases hk
  · cases h


theorem flatKind_part {P : Program} {t : TypeId} {k : Nat} (h : flatKind P t = some k) (cs : Array Value) (o : Nat) (v : Value) (hv : cs[o]? = some v) (w : World) : (part t cs o).run P w = .ok v w := by
  have : (isAgg t).run P w = .ok false w := by
    unfold flatKind at h
    split at h <;> first | (cases h; done) | (simp only [isAgg, Sem.run_bind, run_underlying (by assumption : P.underlying t = some _), Result.andThen]; rfl)
  simp [part, this, hv]

/-- The loop over a struct's fields, as 'equalIn' writes it. -/
theorem eqFields_run {P : Program} {G : Gh} {w : World} (d : Nat) (xs ys : Array Value) : ∀ (fs : List Field) (ks : List Nat) (as bs : List AV) (o : Nat) (r : Bool),
    (∀ f ∈ fs, (f.name != "_") = true) → fs.map (·.offset) = (List.range fs.length).map (· + o) → fs.mapM (fun f => flatKind P f.type) = some ks → eqCells ks as bs = some r →
    (∀ (i : Nat) (c : AV), as[i]? = some c → ∃ v, xs[o + i]? = some v ∧ VRel G w c v) → (∀ (i : Nat) (c : AV), bs[i]? = some c → ∃ v, ys[o + i]? = some v ∧ VRel G w c v) →
    Sem.run P (forIn fs ((none, ()) : Option Bool × Unit) fun f _ =>
      if f.name ≠ "_" then do
        let a ← part f.type xs f.offset
        let b ← part f.type ys f.offset
        let e ← Op.equalIn (d + 1) f.type a b
        if (!e) = true then pure (ForInStep.done (some false, ())) else pure (ForInStep.yield (none, ()))
      else pure (ForInStep.yield (none, ()))) w = .ok ((if r then none else some false), ()) w
  | [], ks, as, bs, o, r, _, _, hk, he, _, _ => by
    simp at hk
    subst hk
    cases as <;> cases bs <;> simp [eqCells] at he
    subst he
    rfl
  | f :: fs, ks, as, bs, o, r, hn, ho, hk, he, ha, hb => by
    have hk' : ∃ k ks', flatKind P f.type = some k ∧ fs.mapM (fun f => flatKind P f.type) = some ks' ∧ ks = k :: ks' := by
      simp only [List.mapM_cons, Option.bind_eq_bind] at hk
      cases h1 : flatKind P f.type with
      | none => simp [h1] at hk
      | some k =>
        cases h2 : fs.mapM (fun f => flatKind P f.type) with
        | none => simp [h1, h2] at hk
        | some ks' => simp [h1, h2] at hk; exact ⟨k, ks', rfl, rfl, hk.symm⟩
    obtain ⟨k, ks', k1, k2, rfl⟩ := hk'
    have hoff : f.offset = o := by
      have := congrArg (fun l => l[0]?) ho
      simp [List.range_succ_eq_map] at this
      exact this
    have ho' : fs.map (·.offset) = (List.range fs.length).map (· + (o + 1)) := by
      simp only [List.map_cons, List.length_cons, List.range_succ_eq_map, List.map_map] at ho
      injection ho with _ ho
      rw [ho]
      apply List.map_congr_left
      intro i _
      simp
      omega
    cases as with
    | nil => simp [eqCells] at he
    | cons a as =>
      cases bs with
      | nil => simp [eqCells] at he
      | cons b bs =>
        obtain ⟨u, u1, u2⟩ := ha 0 a rfl
        obtain ⟨v, v1, v2⟩ := hb 0 b rfl
        simp only [Nat.add_zero] at u1 v1
        simp only [eqCells] at he
        cases hc : eqCell k a b with
        | none => simp [hc] at he
        | some q =>
          rw [hc] at he
          simp only [Option.bind_some] at he
          have hrun := eqCell_sound d k1 hc u2 v2
          have hname : f.name ≠ "_" := by simpa using hn f (by simp)
          rw [List.forIn_cons]
          simp only [hname, ne_eq, not_false_eq_true, if_true, Sem.run_bind, hoff, flatKind_part k1 xs o u u1, flatKind_part k1 ys o v v1, Result.andThen, hrun]
          cases q with
          | false =>
            simp at he
            subst he
            rfl
          | true =>
            simp only [if_true] at he
            have ih := eqFields_run d xs ys fs ks' as bs (o + 1) r (fun f hf => hn f (by simp [hf])) ho' k2 he (fun i c hc => by have := ha (i + 1) c (by simpa using hc); rwa [show o + (i + 1) = o + 1 + i by omega] at this)
              (fun i c hc => by have := hb (i + 1) c (by simpa using hc); rwa [show o + (i + 1) = o + 1 + i by omega] at this)
            simpa using ih

theorem run_equalIn_flat {P : Program} {G : Gh} {w : World} {t : TypeId} {ks : List Nat} (d : Nat) (hf : flatEq P t = some ks) {as bs : List AV} {xs ys : Array Value} {r : Bool} (he : eqCells ks as bs = some r)
    (hx : VRel G w (.agg as) (.agg xs)) (hy : VRel G w (.agg bs) (.agg ys)) : (Op.equalIn (d + 2) t (.agg xs) (.agg ys)).run P w = .ok r w := by
  unfold flatEq at hf
  split at hf
  · rename_i fs hu
    split at hf
    · rename_i hc
      simp only [Bool.and_eq_true, List.all_eq_true, Bool.not_eq_true', beq_iff_eq] at hc
      obtain ⟨⟨⟨c1, c2⟩, c3⟩, c4⟩ := hc
      cases hx with
      | agg _ _ a1 a2 a3 =>
        cases hy with
        | agg _ _ b1 b2 b3 =>
          have hrun := eqFields_run (P := P) (G := G) (w := w) d xs ys fs.toList ks as bs 0 r c1 (by simpa using c2) hf he
            (fun i c hi => by have hl := (List.getElem?_eq_some_iff.1 hi).1; have : i < xs.size := by omega
                              exact ⟨xs[i], by simp [this], a3 i c xs[i] hi (by simp [this])⟩)
            (fun i c hi => by have hl := (List.getElem?_eq_some_iff.1 hi).1; have : i < ys.size := by omega
                              exact ⟨ys[i], by simp [this], b3 i c ys[i] hi (by simp [this])⟩)
          rw [Op.equalIn]
          simp only [Sem.run_bind, run_underlying hu, Result.andThen, run_program, c3, Bool.false_eq_true, if_false]
          rw [← Array.forIn_toList, hrun]
          cases r <;> rfl
    · cases hf
  · cases hf

theorem eqKindOf_bool {P : Program} {t : TypeId} (h : eqKindOf P t = .bool) : P.underlying t = some .bool := by
  unfold eqKindOf at h
  split at h <;> first | assumption | (cases h; done) | (split at h <;> cases h)

theorem eqKindOf_ptr {P : Program} {t : TypeId} (h : eqKindOf P t = .ptr) : ∃ e, P.underlying t = some (.pointer e) := by
  unfold eqKindOf at h
  split at h <;> first | exact ⟨_, by assumption⟩ | (cases h; done) | (split at h <;> cases h)

theorem eqKindOf_flat {P : Program} {t : TypeId} {ks : List Nat} (h : eqKindOf P t = .flat ks) : flatEq P t = some ks := by
  unfold eqKindOf at h
  split at h <;> first | (cases h; done) | skip
  split at h
  · rename_i hf
    injection h with h
    subst h
    exact hf
  · cases h

theorem eqKind_sound {P : Program} {G : Gh} {w : World} {t : TypeId} {x y : AV} {a b : Value} {r : Bool} (h : eqKind (eqKindOf P t) x y = some r) (hx : VRel G w x a) (hy : VRel G w y b) : (Op.equal t a b).run P w = .ok r w ∧
    (∀ (op : BinOp), op = .eql ∨ op = .neq → binOp op t a b = (do pure (.bool ((op == .eql) == (← Op.equal t a b))))) := by
  cases hk : eqKindOf P t with
  | none => simp [hk, eqKind] at h
  | bool =>
    rw [hk] at h
    cases x <;> cases y <;> simp [eqKind] at h
    cases hx; cases hy
    subst h
    refine ⟨run_equalIn_bool w (eqKindOf_bool hk) 9999 _ _, fun op ho => ?_⟩
    rcases ho with rfl | rfl
    · simp [binOp]
    · simp only [binOp, bind_pure_comp]; congr 1; funext a; cases a <;> rfl
  | ptr =>
    rw [hk] at h
    obtain ⟨e, he⟩ := eqKindOf_ptr hk
    have h' : ((isNilAddr x).bind fun a => (isNilAddr y).bind fun b => if a || b then some (a && b) else none) = some r := h
    cases h1 : isNilAddr x with
    | none => simp [h1] at h'
    | some p =>
      cases h2 : isNilAddr y with
      | none => simp [h1, h2] at h'
      | some q =>
        simp only [h1, h2, Option.bind_some] at h'
        split at h'
        · rename_i hpq
          injection h' with h'
          subst h'
          obtain ⟨a', rfl, rfl⟩ := isNilAddr_rel h1 hx
          obtain ⟨b', rfl, rfl⟩ := isNilAddr_rel h2 hy
          refine ⟨run_equalIn_ptr w he 9999 (by simpa using hpq), fun op ho => ?_⟩
          rcases ho with rfl | rfl
          · simp [binOp]
          · simp only [binOp, bind_pure_comp]; congr 1; funext a; cases a <;> rfl
        · cases h'
  | flat ks =>
    rw [hk] at h
    cases x <;> cases y <;> simp [eqKind] at h
    obtain ⟨hl, he⟩ := h
    cases hx with
    | agg as xs a1 a2 a3 =>
      cases hy with
      | agg bs ys b1 b2 b3 =>
        refine ⟨run_equalIn_flat 9998 (eqKindOf_flat hk) he (.agg _ _ a1 a2 a3) (.agg _ _ b1 b2 b3), fun op ho => ?_⟩
        rcases ho with rfl | rfl
        · simp [binOp]
        · simp only [binOp, bind_pure_comp]; congr 1; funext a; cases a <;> rfl

theorem binA_sound {P : Program} {G : Gh} {w : World} {op : BinOp} {t : TypeId} {x y v : AV} {a b : Value} (h : binA op (eqKindOf P t) x y = some v) (hx : VRel G w x a) (hy : VRel G w y b) :
    ∃ u, (binOp op t a b).run P w = .ok u w ∧ VRel G w v u := by
  unfold binA at h
  split at h
  · cases hx; cases hy; exact shiftBin_sound t (.inl rfl) h
  · cases hx; cases hy; exact shiftBin_sound t (.inr rfl) h
  · cases hx; cases hy
    split at h
    · rename_i hk
      subst hk
      exact intBin_sound t h
    · cases h
  · rw [hx.str_inv, hy.str_inv]; exact strBin_sound t h
  · cases hr : eqKind (eqKindOf P t) x y with
    | none => simp [hr] at h
    | some r =>
      simp [hr] at h
      subst h
      obtain ⟨q1, q2⟩ := eqKind_sound hr hx hy
      refine ⟨.bool r, ?_, .bool _⟩
      rw [q2 .eql (.inl rfl)]
      simp [q1]
  · cases hr : eqKind (eqKindOf P t) x y with
    | none => simp [hr] at h
    | some r =>
      simp [hr] at h
      subst h
      obtain ⟨q1, q2⟩ := eqKind_sound hr hx hy
      refine ⟨.bool (!r), ?_, .bool _⟩
      rw [q2 .neq (.inr rfl)]
      simp [q1]
      cases r <;> rfl
  · cases h

end Go.Am

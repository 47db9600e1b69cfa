/- An abstract machine over the model: values as trees, memory as a list of blocks; the relation to the model's worlds. -/
import Derived.Calls
import Derived.RowKit3
import Derived.Below
import Derived.Laws.OwnMore
set_option linter.all false
namespace Go.Am
open Go.RowKit (Below)

inductive Tok where
  | any
  | clip
  | own (k : Nat)
  deriving DecidableEq, Repr, Inhabited

inductive AV where
  | any
  | bool (b : Bool)
  | int (k : IntKind) (n : Int)
  | str (l : List UInt8)
  | nilp
  | ptr (l off : Nat)
  | rptr (v : AV)
  | sl (t : Tok) (es : List AV)
  | msl (l off len : Nat) (sz : Option Nat)
  | map (l : Option Nat)
  | fn (f : Fn) (first captured : List AV)
  | nilfn
  | agg (cs : List AV)
  | tup (vs : List AV)
  deriving Inhabited

def AV.cells : AV → List AV
  | .agg cs => cs
  | v => [v]

def flat (es : List AV) : List AV := es.flatMap AV.cells

def setRange (vs : List AV) (off : Nat) : List AV → List AV
  | [] => vs
  | c :: cs => setRange (vs.set off c) (off + 1) cs

structure TokI where
  b : Nat
  lo : Nat

structure Gh where
  rho : Nat → Option Nat
  imm : Nat → Nat → Prop
  tl : Nat → Option (Nat × Nat)
  tau : Nat → Option TokI
  base : Nat
  w0 : World

def bsize (w : World) (b : Nat) : Option Nat :=
  match w.heap[b]? with
  | some (.cells c _ _) => some c.size
  | _ => none

def TokOk (G : Gh) (w : World) (t : Tok) (len b o cap sz : Nat) : Prop :=
  match t with
  | .any => True
  | .clip => cap = len
  | .own k => ∃ n s, G.tl k = some (n, s) ∧ len ≤ n ∧ (len = n → cap = len ∨ (s = sz ∧ o = 0 ∧ G.tau k = some ⟨b, len * sz⟩ ∧ ∃ z, bsize w b = some z ∧ cap * sz ≤ z))

def TokNil (G : Gh) (t : Tok) : Prop :=
  match t with
  | .own k => ∃ p, G.tl k = some p
  | _ => True

inductive VRel (G : Gh) (w : World) : AV → Value → Prop
  | any (v : Value) : VRel G w .any v
  | bool (b : Bool) : VRel G w (.bool b) (.bool b)
  | int (k : IntKind) (n : Int) : VRel G w (.int k n) (.int k n)
  | str (s : ByteArray) : VRel G w (.str s.data.toList) (.string s)
  | nilp : VRel G w .nilp (.pointer none)
  | ptr (l off B : Nat) : G.rho l = some B → VRel G w (.ptr l off) (.pointer (some ⟨B, off, none⟩))
  | rptr (v : AV) (b o : Nat) (cv : Nat → Value) :
      (∀ (j : Nat) (c : AV), v.cells[j]? = some c → G.imm b (o + j) ∧ w.cell? ⟨b, o + j, none⟩ = some (cv j) ∧ (cv j).oneCell' = true) →
      (∀ (j : Nat) (c : AV), v.cells[j]? = some c → VRel G w c (cv j)) → VRel G w (.rptr v) (.pointer (some ⟨b, o, none⟩))
  | slnil (t : Tok) : TokNil G t → VRel G w (.sl t []) (.slice none 0 0)
  | slz (t : Tok) (a : Addr) : TokNil G t → VRel G w (.sl t []) (.slice (some a) 0 0)
  | sl (t : Tok) (es : List AV) (b o cap sz : Nat) (cv : Nat → Value) :
      (∀ e ∈ es, e.cells.length = sz) → es.length ≤ cap →
      (∀ (j : Nat) (c : AV), (flat es)[j]? = some c → G.imm b (o + j) ∧ w.cell? ⟨b, o + j, none⟩ = some (cv j) ∧ (cv j).oneCell' = true) →
      (∀ (j : Nat) (c : AV), (flat es)[j]? = some c → VRel G w c (cv j)) →
      TokOk G w t es.length b o cap sz →
      VRel G w (.sl t es) (.slice (some ⟨b, o, none⟩) es.length cap)
  | msl (l off len : Nat) (sz : Option Nat) (B cap z : Nat) : G.rho l = some B → len ≤ cap → bsize w B = some z → off + cap * sz.getD 1 ≤ z →
      VRel G w (.msl l off len sz) (.slice (some ⟨B, off, none⟩) len cap)
  | mapnil : VRel G w (.map none) (.map none)
  | map (l B : Nat) : G.rho l = some B → VRel G w (.map (some l)) (.map (some B))
  | fn (f : Fn) (xs ys : List AV) (vs us : Array Value) : xs.length = vs.size → ys.length = us.size →
      (∀ (i : Nat) (c : AV) (v : Value), xs[i]? = some c → vs[i]? = some v → VRel G w c v) →
      (∀ (i : Nat) (c : AV) (v : Value), ys[i]? = some c → us[i]? = some v → VRel G w c v) → VRel G w (.fn f xs ys) (.func f vs us)
  | nilfn : VRel G w .nilfn .nilFunc
  | agg (cs : List AV) (vs : Array Value) : cs.length = vs.size → (∀ (i : Nat) (v : Value), vs[i]? = some v → v.oneCell' = true) →
      (∀ (i : Nat) (c : AV) (v : Value), cs[i]? = some c → vs[i]? = some v → VRel G w c v) → VRel G w (.agg cs) (.agg vs)
  | tup (cs : List AV) (vs : Array Value) : cs.length = vs.size →
      (∀ (i : Nat) (c : AV) (v : Value), cs[i]? = some c → vs[i]? = some v → VRel G w c v) → VRel G w (.tup cs) (.tuple vs)

structure Ext (G : Gh) (w : World) (G' : Gh) (w' : World) (n m : Nat) : Prop where
  rho : ∀ l, l < n → G'.rho l = G.rho l
  imm : ∀ b o, G.imm b o → G'.imm b o
  cell : ∀ b o, G.imm b o → w'.cell? ⟨b, o, none⟩ = w.cell? ⟨b, o, none⟩
  size : ∀ b z, bsize w b = some z → bsize w' b = some z
  tok : ∀ k p, k < m → G.tl k = some p → ∃ p', G'.tl k = some p' ∧ p'.2 = p.2 ∧ p.1 ≤ p'.1 ∧ (p'.1 = p.1 → G'.tau k = G.tau k)
  heap : w.heap.size ≤ w'.heap.size
  base : G'.base = G.base
  w0 : G'.w0 = G.w0

theorem Ext.refl (G : Gh) (w : World) (n m : Nat) : Ext G w G w n m :=
  ⟨fun _ _ => rfl, fun _ _ h => h, fun _ _ _ => rfl, fun _ _ h => h, fun _ p _ h => ⟨p, h, rfl, Nat.le_refl _, fun _ => rfl⟩, Nat.le_refl _, rfl, rfl⟩

theorem Ext.trans {G G1 G2 : Gh} {w w1 w2 : World} {n m n1 m1 : Nat} (h : Ext G w G1 w1 n m) (k : Ext G1 w1 G2 w2 n1 m1) (hn : n ≤ n1) (hm : m ≤ m1) : Ext G w G2 w2 n m where
  rho l hl := (k.rho l (by omega)).trans (h.rho l hl)
  imm b o hi := k.imm b o (h.imm b o hi)
  cell b o hi := (k.cell b o (h.imm b o hi)).trans (h.cell b o hi)
  size b z hz := k.size b z (h.size b z hz)
  tok i p hi hp := by
    obtain ⟨p1, h1, h2, h3, h4⟩ := h.tok i p hi hp
    obtain ⟨p2, k1, k2, k3, k4⟩ := k.tok i p1 (by omega) h1
    exact ⟨p2, k1, k2.trans h2, by omega, fun e => (k4 (by omega)).trans (h4 (by omega))⟩
  heap := Nat.le_trans h.heap k.heap
  base := k.base.trans h.base
  w0 := k.w0.trans h.w0

theorem Ext.mono {G G' : Gh} {w w' : World} {n m n' m' : Nat} (h : Ext G w G' w' n m) (hn : n' ≤ n) (hm : m' ≤ m) : Ext G w G' w' n' m' :=
  ⟨fun l hl => h.rho l (by omega), h.imm, h.cell, h.size, fun k p hk => h.tok k p (by omega), h.heap, h.base, h.w0⟩

theorem TokOk.ext {G G' : Gh} {w w' : World} {n m : Nat} (h : Ext G w G' w' n m) (hd : ∀ k p, G.tl k = some p → k < m) {t : Tok} {len b o cap sz : Nat} (ht : TokOk G w t len b o cap sz) : TokOk G' w' t len b o cap sz := by
  cases t with
  | any => trivial
  | clip => exact ht
  | own k =>
    obtain ⟨nn, s, h1, h2, h3⟩ := ht
    obtain ⟨p', q1, q2, q3, q4⟩ := h.tok k _ (hd k _ h1) h1
    obtain ⟨n', s'⟩ := p'
    simp only at q1 q2 q3 q4
    refine ⟨n', s', q1, by omega, fun e => ?_⟩
    have hn : nn = n' := by omega
    rcases h3 (by omega) with h4 | ⟨h4, h5, h6, z, h7, h8⟩
    · exact .inl h4
    · exact .inr ⟨by omega, h5, (q4 hn.symm).trans h6, z, h.size _ _ h7, h8⟩

theorem TokNil.ext {G G' : Gh} {w w' : World} {n m : Nat} (h : Ext G w G' w' n m) (hd : ∀ k p, G.tl k = some p → k < m) {t : Tok} (ht : TokNil G t) : TokNil G' t := by
  cases t with
  | any => trivial
  | clip => trivial
  | own k =>
    obtain ⟨p, h1⟩ := ht
    obtain ⟨p', q1, _⟩ := h.tok k _ (hd k _ h1) h1
    exact ⟨p', q1⟩

theorem VRel.ext {G G' : Gh} {w w' : World} {n m : Nat} (h : Ext G w G' w' n m) (hr : ∀ l B, G.rho l = some B → l < n) (hd : ∀ k p, G.tl k = some p → k < m) {v : AV} {x : Value} (hv : VRel G w v x) : VRel G' w' v x := by
  induction hv with
  | any v => exact .any v
  | bool b => exact .bool b
  | int k n => exact .int k n
  | str s => exact .str s
  | nilp => exact .nilp
  | ptr l off B hl => exact .ptr l off B ((h.rho l (hr l B hl)).trans hl)
  | rptr v b o cv h1 h2 ih => exact .rptr v b o cv (fun j c hj => ⟨h.imm _ _ (h1 j c hj).1, (h.cell _ _ (h1 j c hj).1).trans (h1 j c hj).2.1, (h1 j c hj).2.2⟩) ih
  | slnil t ht => exact .slnil t (ht.ext h hd)
  | slz t a ht => exact .slz t a (ht.ext h hd)
  | sl t es b o cap sz cv h1 h2 h3 h4 h5 ih =>
    exact .sl t es b o cap sz cv h1 h2 (fun j c hj => ⟨h.imm _ _ (h3 j c hj).1, (h.cell _ _ (h3 j c hj).1).trans (h3 j c hj).2.1, (h3 j c hj).2.2⟩) ih (h5.ext h hd)
  | msl l off len sz B cap z h1 h2 h3 h4 => exact .msl l off len sz B cap z ((h.rho l (hr l B h1)).trans h1) h2 (h.size _ _ h3) h4
  | mapnil => exact .mapnil
  | map l B hl => exact .map l B ((h.rho l (hr l B hl)).trans hl)
  | fn f xs ys vs us h1 h2 _ _ ih1 ih2 => exact .fn f xs ys vs us h1 h2 ih1 ih2
  | nilfn => exact .nilfn
  | agg cs vs h1 h2 _ ih => exact .agg cs vs h1 h2 ih
  | tup cs vs h1 _ ih => exact .tup cs vs h1 ih

/-! Blocks and states. -/

inductive Blk where
  | cells (fz : Bool) (vs : List AV)
  | map (es : List (AV × AV))
  | gone
  deriving Inhabited

structure St where
  heap : List Blk
  toks : List (Nat × Nat)
  deriving Inhabited

def MapRel (G : Gh) (w : World) (es : List (AV × AV)) (cs : Array MapEntry) (clock : Nat) : Prop :=
  ∃ p : List (AV × AV), p.Perm es ∧ p.length = cs.size ∧
    (∀ (i : Nat) (e : AV × AV) (c : MapEntry), p[i]? = some e → cs[i]? = some c → VRel G w e.1 c.key ∧ VRel G w e.2 c.val) ∧
    (∀ (i : Nat) (c : MapEntry), cs[i]? = some c → c.born < clock) ∧
    (∀ (i j : Nat) (c d : MapEntry), cs[i]? = some c → cs[j]? = some d → c.born = d.born → i = j)

def BlkRel (G : Gh) (w : World) (B : Nat) : Blk → Prop
  | .cells fz vs => ∃ c elem fr, w.heap[B]? = some (.cells c elem fr) ∧ vs.length ≤ c.size ∧
      (∀ (i : Nat) (v : AV) (x : Value), vs[i]? = some v → c[i]? = some x → VRel G w v x ∧ x.oneCell' = true) ∧
      (if fz then ∀ i, i < vs.length → G.imm B i else (∀ o, ¬ G.imm B o) ∧ (∀ o, o < c.size → w.frozen? ⟨B, o, none⟩ = false))
  | .map es => ∃ cs clock, w.heap[B]? = some (.map cs clock) ∧ MapRel G w es cs clock
  | .gone => True

structure Inv (G : Gh) (w : World) (st : St) : Prop where
  dom : ∀ l B, G.rho l = some B → l < st.heap.length
  img : ∀ l B, G.rho l = some B → G.base ≤ B ∧ B < w.heap.size
  inj : ∀ l l' B, G.rho l = some B → G.rho l' = some B → l = l'
  blk : ∀ (l : Nat) (b : Blk), st.heap[l]? = some b → ∃ B, G.rho l = some B ∧ BlkRel G w B b
  tl : ∀ k, G.tl k = st.toks[k]?
  tdom : ∀ k i, G.tau k = some i → k < st.toks.length ∧ G.base ≤ i.b ∧
    (∃ z, bsize w i.b = some z ∧ i.lo ≤ z ∧ ∀ o, i.lo ≤ o → o < z → w.frozen? ⟨i.b, o, none⟩ = false) ∧
    (∀ o, i.lo ≤ o → ¬ G.imm i.b o) ∧ (∀ l, G.rho l = some i.b → ∃ vs, st.heap[l]? = some (.cells true vs))
  tinj : ∀ k k' i i', G.tau k = some i → G.tau k' = some i' → i.b = i'.b → k = k'
  cells : ∀ b o, G.imm b o → ∃ v, w.cell? ⟨b, o, none⟩ = some v
  below : Below G.base G.w0 w
  bsz : G.base ≤ w.heap.size

theorem Inv.tdom' {G : Gh} {w : World} {st : St} (h : Inv G w st) : ∀ k p, G.tl k = some p → k < st.toks.length := by
  intro k p hk
  rw [h.tl] at hk
  exact (List.getElem?_eq_some_iff.1 hk).1

theorem VRel.inv {G G' : Gh} {w w' : World} {st : St} (hI : Inv G w st) (h : Ext G w G' w' st.heap.length st.toks.length) {v : AV} {x : Value} (hv : VRel G w v x) : VRel G' w' v x :=
  hv.ext h hI.dom hI.tdom'

/-! Cells of a value. -/

def isTup : AV → Bool
  | .tup _ => true
  | _ => false

theorem VRel.oneCell {G : Gh} {w : World} {v : AV} {x : Value} (h : VRel G w v x) (hv : v ≠ .any) (ht : isTup v = false) (ha : ∀ cs, v ≠ .agg cs) : x.oneCell' = true := by
  cases h <;> first
    | rfl
    | exact absurd rfl hv
    | exact absurd rfl (ha _)
    | (simp [isTup] at ht)

theorem VRel.cells {G : Gh} {w : World} {v : AV} {x : Value} (h : VRel G w v x) (hv : v ≠ .any) (ht : isTup v = false) :
    v.cells.length = x.cells.size ∧ ∀ (i : Nat) (c : AV) (y : Value), v.cells[i]? = some c → x.cells[i]? = some y → VRel G w c y ∧ y.oneCell' = true := by
  by_cases ha : ∃ cs, v = .agg cs
  · obtain ⟨cs, rfl⟩ := ha
    cases h with
    | agg cs vs h1 h2 h3 => exact ⟨h1, fun i c y hc hy => ⟨h3 i c y hc hy, h2 i y hy⟩⟩
  · have ho := h.oneCell hv ht (fun cs e => ha ⟨cs, e⟩)
    have h1 : v.cells = [v] := by cases v <;> first | rfl | exact absurd ⟨_, rfl⟩ ha
    have h2 : x.cells = #[x] := by cases x <;> first | rfl | (simp [Value.oneCell'] at ho)
    rw [h1, h2]
    refine ⟨rfl, fun i c y hc hy => ?_⟩
    cases i with
    | succ i => simp at hc
    | zero =>
      simp at hc hy
      subst hc; subst hy
      exact ⟨h, ho⟩

end Go.Am

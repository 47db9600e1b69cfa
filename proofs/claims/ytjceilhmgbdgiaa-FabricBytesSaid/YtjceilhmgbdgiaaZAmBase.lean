/- An abstract machine over the model: values as trees, memory as a list of blocks; the relation to the model's worlds. -/
import Derived.Calls
import Derived.RowKit3
import Derived.Below
import Derived.Laws.OwnMore
import Derived.Laws.IdiomCopy
import Derived.Laws.Cells
import Derived.Laws.Strings
import Derived.ChangeKeysEq
import Derived.Laws.Tables
import Derived.Deep.AppendSrc
import Derived.Laws.MakeOwn
import Derived.Laws.BytesString
import Derived.Laws.IdiomStrings
import Derived.Deep.Upon
set_option linter.all false
namespace Go.Am
open Go.RowKit (Below)

inductive Tok where
  | any
  | clip
  | own (k : Nat)
  deriving DecidableEq, Repr, Inhabited

inductive AV where
  | any
  | bool (b : Bool)
  | int (k : IntKind) (n : Int)
  | str (l : List UInt8)
  | nilp
  | ptr (l off : Nat)
  | rptr (v : AV)
  | sl (t : Tok) (es : List AV)
  | msl (l off len : Nat) (sz : Option Nat)
  | map (l : Option Nat)
  | fn (f : Fn) (first captured : List AV)
  | nilfn
  | ub
  | agg (cs : List AV)
  | tup (vs : List AV)
  deriving Inhabited

def AV.cells : AV → List AV
  | .agg cs => cs
  | v => [v]

def flat (es : List AV) : List AV := es.flatMap AV.cells

def setRange (vs : List AV) (off : Nat) : List AV → List AV
  | [] => vs
  | c :: cs => setRange (vs.set off c) (off + 1) cs

structure TokI where
  b : Nat
  lo : Nat

structure Gh where
  rho : Nat → Option Nat
  imm : Nat → Nat → Prop
  tl : Nat → Option (Nat × Nat)
  tau : Nat → Option TokI
  base : Nat
  w0 : World

def bsize (w : World) (b : Nat) : Option Nat :=
  match w.heap[b]? with
  | some (.cells c _ _) => some c.size
  | _ => none

def TokOk (G : Gh) (w : World) (t : Tok) (len b o cap sz : Nat) : Prop :=
  match t with
  | .any => True
  | .clip => cap = len
  | .own k => ∃ n s, G.tl k = some (n, s) ∧ len ≤ n ∧ (len = n → cap = len ∨ (s = sz ∧ o = 0 ∧ G.tau k = some ⟨b, len * sz⟩ ∧ ∃ z, bsize w b = some z ∧ cap * sz ≤ z))

def TokNil (G : Gh) (t : Tok) : Prop :=
  match t with
  | .own k => ∃ p, G.tl k = some p
  | _ => True

inductive VRel (G : Gh) (w : World) : AV → Value → Prop
  | any (v : Value) : VRel G w .any v
  | bool (b : Bool) : VRel G w (.bool b) (.bool b)
  | int (k : IntKind) (n : Int) : VRel G w (.int k n) (.int k n)
  | str (s : ByteArray) : VRel G w (.str s.data.toList) (.string s)
  | nilp : VRel G w .nilp (.pointer none)
  | ptr (l off B : Nat) : G.rho l = some B → VRel G w (.ptr l off) (.pointer (some ⟨B, off, none⟩))
  | rptr (v : AV) (b o : Nat) (cv : Nat → Value) :
      (∀ (j : Nat) (c : AV), v.cells[j]? = some c → G.imm b (o + j) ∧ w.cell? ⟨b, o + j, none⟩ = some (cv j) ∧ (cv j).oneCell' = true) →
      (∀ (j : Nat) (c : AV), v.cells[j]? = some c → VRel G w c (cv j)) → VRel G w (.rptr v) (.pointer (some ⟨b, o, none⟩))
  | slnil (t : Tok) : TokNil G t → VRel G w (.sl t []) (.slice none 0 0)
  | slz (t : Tok) (a : Addr) : TokNil G t → VRel G w (.sl t []) (.slice (some a) 0 0)
  | sl (t : Tok) (es : List AV) (b o cap sz : Nat) (cv : Nat → Value) :
      (∀ e ∈ es, e.cells.length = sz) → es.length ≤ cap →
      (∀ (j : Nat) (c : AV), (flat es)[j]? = some c → G.imm b (o + j) ∧ w.cell? ⟨b, o + j, none⟩ = some (cv j) ∧ (cv j).oneCell' = true) →
      (∀ (j : Nat) (c : AV), (flat es)[j]? = some c → VRel G w c (cv j)) →
      TokOk G w t es.length b o cap sz →
      VRel G w (.sl t es) (.slice (some ⟨b, o, none⟩) es.length cap)
  | msl (l off len : Nat) (sz : Option Nat) (B cap z : Nat) : G.rho l = some B → len ≤ cap → bsize w B = some z → off + cap * sz.getD 1 ≤ z →
      VRel G w (.msl l off len sz) (.slice (some ⟨B, off, none⟩) len cap)
  | mapnil : VRel G w (.map none) (.map none)
  | map (l B : Nat) : G.rho l = some B → VRel G w (.map (some l)) (.map (some B))
  | fn (f : Fn) (xs ys : List AV) (vs us : Array Value) : xs.length = vs.size → ys.length = us.size →
      (∀ (i : Nat) (c : AV) (v : Value), xs[i]? = some c → vs[i]? = some v → VRel G w c v) →
      (∀ (i : Nat) (c : AV) (v : Value), ys[i]? = some c → us[i]? = some v → VRel G w c v) → VRel G w (.fn f xs ys) (.func f vs us)
  | nilfn : VRel G w .nilfn .nilFunc
  | ub (b : Bool) : VRel G w .ub (.bool b)
  | agg (cs : List AV) (vs : Array Value) : cs.length = vs.size → (∀ (i : Nat) (v : Value), vs[i]? = some v → v.oneCell' = true) →
      (∀ (i : Nat) (c : AV) (v : Value), cs[i]? = some c → vs[i]? = some v → VRel G w c v) → VRel G w (.agg cs) (.agg vs)
  | tup (cs : List AV) (vs : Array Value) : cs.length = vs.size →
      (∀ (i : Nat) (c : AV) (v : Value), cs[i]? = some c → vs[i]? = some v → VRel G w c v) → VRel G w (.tup cs) (.tuple vs)

structure Ext (G : Gh) (w : World) (G' : Gh) (w' : World) (n m : Nat) : Prop where
  rho : ∀ l, l < n → G'.rho l = G.rho l
  imm : ∀ b o, G.imm b o → G'.imm b o
  cell : ∀ b o, G.imm b o → w'.cell? ⟨b, o, none⟩ = w.cell? ⟨b, o, none⟩
  size : ∀ b z, bsize w b = some z → bsize w' b = some z
  tok : ∀ k p, k < m → G.tl k = some p → ∃ p', G'.tl k = some p' ∧ p'.2 = p.2 ∧ p.1 ≤ p'.1 ∧ (p'.1 = p.1 → G'.tau k = G.tau k)
  heap : w.heap.size ≤ w'.heap.size
  base : G'.base = G.base
  w0 : G'.w0 = G.w0
  immB : ∀ b o, G'.imm b o → b < G.base → G.imm b o

theorem Ext.refl (G : Gh) (w : World) (n m : Nat) : Ext G w G w n m :=
  ⟨fun _ _ => rfl, fun _ _ h => h, fun _ _ _ => rfl, fun _ _ h => h, fun _ p _ h => ⟨p, h, rfl, Nat.le_refl _, fun _ => rfl⟩, Nat.le_refl _, rfl, rfl, fun _ _ h _ => h⟩

theorem Ext.trans {G G1 G2 : Gh} {w w1 w2 : World} {n m n1 m1 : Nat} (h : Ext G w G1 w1 n m) (k : Ext G1 w1 G2 w2 n1 m1) (hn : n ≤ n1) (hm : m ≤ m1) : Ext G w G2 w2 n m where
  rho l hl := (k.rho l (by omega)).trans (h.rho l hl)
  imm b o hi := k.imm b o (h.imm b o hi)
  cell b o hi := (k.cell b o (h.imm b o hi)).trans (h.cell b o hi)
  size b z hz := k.size b z (h.size b z hz)
  tok i p hi hp := by
    obtain ⟨p1, h1, h2, h3, h4⟩ := h.tok i p hi hp
    obtain ⟨p2, k1, k2, k3, k4⟩ := k.tok i p1 (by omega) h1
    exact ⟨p2, k1, k2.trans h2, by omega, fun e => (k4 (by omega)).trans (h4 (by omega))⟩
  heap := Nat.le_trans h.heap k.heap
  base := k.base.trans h.base
  w0 := k.w0.trans h.w0
  immB b o hi hb := h.immB b o (k.immB b o hi (by rw [h.base]; exact hb)) hb

theorem Ext.mono {G G' : Gh} {w w' : World} {n m n' m' : Nat} (h : Ext G w G' w' n m) (hn : n' ≤ n) (hm : m' ≤ m) : Ext G w G' w' n' m' :=
  ⟨fun l hl => h.rho l (by omega), h.imm, h.cell, h.size, fun k p hk => h.tok k p (by omega), h.heap, h.base, h.w0, h.immB⟩

theorem TokOk.ext {G G' : Gh} {w w' : World} {n m : Nat} (h : Ext G w G' w' n m) (hd : ∀ k p, G.tl k = some p → k < m) {t : Tok} {len b o cap sz : Nat} (ht : TokOk G w t len b o cap sz) : TokOk G' w' t len b o cap sz := by
  cases t with
  | any => trivial
  | clip => exact ht
  | own k =>
    obtain ⟨nn, s, h1, h2, h3⟩ := ht
    obtain ⟨p', q1, q2, q3, q4⟩ := h.tok k _ (hd k _ h1) h1
    obtain ⟨n', s'⟩ := p'
    simp only at q1 q2 q3 q4
    refine ⟨n', s', q1, by omega, fun e => ?_⟩
    have hn : nn = n' := by omega
    rcases h3 (by omega) with h4 | ⟨h4, h5, h6, z, h7, h8⟩
    · exact .inl h4
    · exact .inr ⟨by omega, h5, (q4 hn.symm).trans h6, z, h.size _ _ h7, h8⟩

theorem TokNil.ext {G G' : Gh} {w w' : World} {n m : Nat} (h : Ext G w G' w' n m) (hd : ∀ k p, G.tl k = some p → k < m) {t : Tok} (ht : TokNil G t) : TokNil G' t := by
  cases t with
  | any => trivial
  | clip => trivial
  | own k =>
    obtain ⟨p, h1⟩ := ht
    obtain ⟨p', q1, _⟩ := h.tok k _ (hd k _ h1) h1
    exact ⟨p', q1⟩

theorem VRel.ext {G G' : Gh} {w w' : World} {n m : Nat} (h : Ext G w G' w' n m) (hr : ∀ l B, G.rho l = some B → l < n) (hd : ∀ k p, G.tl k = some p → k < m) {v : AV} {x : Value} (hv : VRel G w v x) : VRel G' w' v x := by
  induction hv with
  | any v => exact .any v
  | bool b => exact .bool b
  | int k n => exact .int k n
  | str s => exact .str s
  | nilp => exact .nilp
  | ptr l off B hl => exact .ptr l off B ((h.rho l (hr l B hl)).trans hl)
  | rptr v b o cv h1 h2 ih => exact .rptr v b o cv (fun j c hj => ⟨h.imm _ _ (h1 j c hj).1, (h.cell _ _ (h1 j c hj).1).trans (h1 j c hj).2.1, (h1 j c hj).2.2⟩) ih
  | slnil t ht => exact .slnil t (ht.ext h hd)
  | slz t a ht => exact .slz t a (ht.ext h hd)
  | sl t es b o cap sz cv h1 h2 h3 h4 h5 ih =>
    exact .sl t es b o cap sz cv h1 h2 (fun j c hj => ⟨h.imm _ _ (h3 j c hj).1, (h.cell _ _ (h3 j c hj).1).trans (h3 j c hj).2.1, (h3 j c hj).2.2⟩) ih (h5.ext h hd)
  | msl l off len sz B cap z h1 h2 h3 h4 => exact .msl l off len sz B cap z ((h.rho l (hr l B h1)).trans h1) h2 (h.size _ _ h3) h4
  | mapnil => exact .mapnil
  | map l B hl => exact .map l B ((h.rho l (hr l B hl)).trans hl)
  | fn f xs ys vs us h1 h2 _ _ ih1 ih2 => exact .fn f xs ys vs us h1 h2 ih1 ih2
  | nilfn => exact .nilfn
  | ub b => exact .ub b
  | agg cs vs h1 h2 _ ih => exact .agg cs vs h1 h2 ih
  | tup cs vs h1 _ ih => exact .tup cs vs h1 ih

/-! Blocks and states. -/

inductive Blk where
  | cells (fz : Bool) (vs : List AV)
  | map (es : List (AV × AV × Nat)) (clock : Nat)
  | gone
  deriving Inhabited

structure St where
  heap : List Blk
  toks : List (Nat × Nat)
  deriving Inhabited

def MapRel (G : Gh) (w : World) (es : List (AV × AV × Nat)) (cs : Array MapEntry) : Prop :=
  es.length = cs.size ∧ ∀ (i : Nat) (e : AV × AV × Nat) (c : MapEntry), es[i]? = some e → cs[i]? = some c → VRel G w e.1 c.key ∧ VRel G w e.2.1 c.val ∧ c.born = e.2.2

def BlkRel (G : Gh) (w : World) (B : Nat) : Blk → Prop
  | .cells fz vs => ∃ c elem fr, w.heap[B]? = some (.cells c elem fr) ∧ vs.length ≤ c.size ∧
      (∀ (i : Nat) (v : AV) (x : Value), vs[i]? = some v → c[i]? = some x → VRel G w v x ∧ x.oneCell' = true) ∧
      (if fz then ∀ i, i < vs.length → G.imm B i else (∀ o, ¬ G.imm B o) ∧ (∀ o, o < c.size → w.frozen? ⟨B, o, none⟩ = false))
  | .map es clock => ∃ cs, w.heap[B]? = some (.map cs clock) ∧ MapRel G w es cs
  | .gone => True

structure Inv (G : Gh) (w : World) (st : St) : Prop where
  dom : ∀ l B, G.rho l = some B → l < st.heap.length
  img : ∀ l B, G.rho l = some B → G.base ≤ B ∧ B < w.heap.size
  inj : ∀ l l' B, G.rho l = some B → G.rho l' = some B → l = l'
  blk : ∀ (l : Nat) (b : Blk), st.heap[l]? = some b → ∃ B, G.rho l = some B ∧ BlkRel G w B b
  tl : ∀ k, G.tl k = st.toks[k]?
  tdom : ∀ k i, G.tau k = some i → k < st.toks.length ∧ G.base ≤ i.b ∧
    (∃ z, bsize w i.b = some z ∧ i.lo ≤ z ∧ ∀ o, i.lo ≤ o → o < z → w.frozen? ⟨i.b, o, none⟩ = false) ∧
    (∀ o, i.lo ≤ o → ¬ G.imm i.b o) ∧ (∀ l, G.rho l = some i.b → ∃ vs, st.heap[l]? = some (.cells true vs))
  tinj : ∀ k k' i i', G.tau k = some i → G.tau k' = some i' → i.b = i'.b → k = k'
  cells : ∀ b o, G.imm b o → ∃ v, w.cell? ⟨b, o, none⟩ = some v
  below : Below G.base G.w0 w
  bsz : G.base ≤ w.heap.size

theorem Inv.tdom' {G : Gh} {w : World} {st : St} (h : Inv G w st) : ∀ k p, G.tl k = some p → k < st.toks.length := by
  intro k p hk
  rw [h.tl] at hk
  exact (List.getElem?_eq_some_iff.1 hk).1

theorem VRel.inv {G G' : Gh} {w w' : World} {st : St} (hI : Inv G w st) (h : Ext G w G' w' st.heap.length st.toks.length) {v : AV} {x : Value} (hv : VRel G w v x) : VRel G' w' v x :=
  hv.ext h hI.dom hI.tdom'

/-! Cells of a value. -/

def isTup : AV → Bool
  | .tup _ => true
  | _ => false

theorem VRel.oneCell {G : Gh} {w : World} {v : AV} {x : Value} (h : VRel G w v x) (hv : v ≠ .any) (ht : isTup v = false) (ha : ∀ cs, v ≠ .agg cs) : x.oneCell' = true := by
  cases h <;> first
    | rfl
    | exact absurd rfl hv
    | exact absurd rfl (ha _)
    | (simp [isTup] at ht)

theorem VRel.cells {G : Gh} {w : World} {v : AV} {x : Value} (h : VRel G w v x) (hv : v ≠ .any) (ht : isTup v = false) :
    v.cells.length = x.cells.size ∧ ∀ (i : Nat) (c : AV) (y : Value), v.cells[i]? = some c → x.cells[i]? = some y → VRel G w c y ∧ y.oneCell' = true := by
  by_cases ha : ∃ cs, v = .agg cs
  · obtain ⟨cs, rfl⟩ := ha
    cases h with
    | agg cs vs h1 h2 h3 => exact ⟨h1, fun i c y hc hy => ⟨h3 i c y hc hy, h2 i y hy⟩⟩
  · have ho := h.oneCell hv ht (fun cs e => ha ⟨cs, e⟩)
    have h1 : v.cells = [v] := by cases v <;> first | rfl | exact absurd ⟨_, rfl⟩ ha
    have h2 : x.cells = #[x] := by cases x <;> first | rfl | (simp [Value.oneCell'] at ho)
    rw [h1, h2]
    refine ⟨rfl, fun i c y hc hy => ?_⟩
    cases i with
    | succ i => simp at hc
    | zero =>
      simp at hc hy
      subst hc; subst hy
      exact ⟨h, ho⟩

end Go.Am

/- The abstract machine: what each change of a world does to the relation. -/
namespace Go.Am
open Go.RowKit (Below)

theorem cell_of_block {w w' : World} {b : Nat} (h : w'.heap[b]? = w.heap[b]?) (o : Nat) : w'.cell? ⟨b, o, none⟩ = w.cell? ⟨b, o, none⟩ := by
  simp [World.cell?, h]

theorem frozen_of_block {w w' : World} {b : Nat} (h : w'.heap[b]? = w.heap[b]?) (o : Nat) : w'.frozen? ⟨b, o, none⟩ = w.frozen? ⟨b, o, none⟩ := by
  simp [World.frozen?, h]

theorem bsize_of_block {w w' : World} {b : Nat} (h : w'.heap[b]? = w.heap[b]?) : bsize w' b = bsize w b := by
  simp [bsize, h]

theorem alloc_old (w : World) (o : Obj) {b : Nat} (h : b < w.heap.size) : (w.alloc o).heap[b]? = w.heap[b]? := Below.heap_alloc w o b h

theorem alloc_new (w : World) (o : Obj) : (w.alloc o).heap[w.heap.size]? = some o := by
  show (w.heap.push o)[w.heap.size]? = _
  simp

theorem alloc_size (w : World) (o : Obj) : (w.alloc o).heap.size = w.heap.size + 1 := by
  show (w.heap.push o).size = _
  simp

theorem cell_lt {w : World} {b o : Nat} {v : Value} (h : w.cell? ⟨b, o, none⟩ = some v) : b < w.heap.size := by
  rcases Nat.lt_or_ge b w.heap.size with hb | hb
  · exact hb
  · simp [World.cell?, Array.getElem?_eq_none hb] at h

theorem bsize_lt {w : World} {b z : Nat} (h : bsize w b = some z) : b < w.heap.size := by
  rcases Nat.lt_or_ge b w.heap.size with hb | hb
  · exact hb
  · simp [bsize, Array.getElem?_eq_none hb] at h

theorem Inv.imm_lt {G : Gh} {w : World} {st : St} (h : Inv G w st) {b o : Nat} (hi : G.imm b o) : b < w.heap.size := by
  obtain ⟨v, hv⟩ := h.cells b o hi
  exact cell_lt hv

theorem BlkRel.keep {G G' : Gh} {w w' : World} {B : Nat} {b : Blk} (h : BlkRel G w B b) (hv : ∀ v x, VRel G w v x → VRel G' w' v x) (hb : w'.heap[B]? = w.heap[B]?)
    (him : ∀ o, G.imm B o → G'.imm B o) (hno : (∃ vs, b = .cells false vs) → (∀ o, ¬ G.imm B o) → ∀ o, ¬ G'.imm B o) : BlkRel G' w' B b := by
  cases b with
  | cells fz vs =>
    obtain ⟨c, elem, fr, h1, h2, h3, h4⟩ := h
    refine ⟨c, elem, fr, hb.trans h1, h2, fun i v x hi hx => ⟨hv _ _ (h3 i v x hi hx).1, (h3 i v x hi hx).2⟩, ?_⟩
    cases fz with
    | true => exact fun i hi => him _ (h4 i hi)
    | false => exact ⟨hno ⟨_, rfl⟩ h4.1, fun o ho => (frozen_of_block hb o).trans (h4.2 o ho)⟩
  | map es clock =>
    obtain ⟨cs, h1, p1, p2⟩ := h
    exact ⟨cs, hb.trans h1, p1, fun i e c hi hc => ⟨hv _ _ (p2 i e c hi hc).1, hv _ _ (p2 i e c hi hc).2.1, (p2 i e c hi hc).2.2⟩⟩
  | gone => trivial

/-! A draw. -/

theorem Ext.drawn (G : Gh) (w : World) (d n m : Nat) : Ext G w G { w with drawn := d } n m :=
  ⟨fun _ _ => rfl, fun _ _ h => h, fun _ _ _ => rfl, fun _ _ h => h, fun _ p _ h => ⟨p, h, rfl, Nat.le_refl _, fun _ => rfl⟩, Nat.le_refl _, rfl, rfl, fun _ _ h _ => h⟩

theorem Inv.drawn {G : Gh} {w : World} {st : St} (h : Inv G w st) (d : Nat) : Inv G { w with drawn := d } st where
  dom := h.dom
  img := h.img
  inj := h.inj
  blk l b hl := by
    obtain ⟨B, h1, h2⟩ := h.blk l b hl
    exact ⟨B, h1, h2.keep (fun v x hv => hv.inv h (Ext.drawn G w d _ _)) rfl (fun _ hi => hi) (fun _ hi => hi)⟩
  tl := h.tl
  tdom := h.tdom
  tinj := h.tinj
  cells := h.cells
  below := ⟨h.below.os, h.below.tape, h.below.output, h.below.size, h.below.block⟩
  bsz := h.bsz

/-! A new block of cells that may be written. -/

def Gh.addRho (G : Gh) (l B : Nat) : Gh := { G with rho := fun i => if i = l then some B else G.rho i }

theorem Inv.allocMut {G : Gh} {w : World} {st : St} (h : Inv G w st) (o : Obj) (b : Blk)
    (hb : ∀ G' w', (∀ v x, VRel G w v x → VRel G' w' v x) → w'.heap[w.heap.size]? = some o → (∀ i, ¬ G'.imm w.heap.size i) → BlkRel G' w' w.heap.size b) :
    Inv (G.addRho st.heap.length w.heap.size) (w.alloc o) { st with heap := st.heap ++ [b] } ∧
    Ext G w (G.addRho st.heap.length w.heap.size) (w.alloc o) st.heap.length st.toks.length := by
  have hE : Ext G w (G.addRho st.heap.length w.heap.size) (w.alloc o) st.heap.length st.toks.length :=
    { rho := fun l hl => by simp [Gh.addRho, Nat.ne_of_lt hl]
      imm := fun _ _ hi => hi
      cell := fun b o' hi => cell_of_block (alloc_old w o (h.imm_lt hi)) o'
      size := fun b z hz => (bsize_of_block (alloc_old w o (bsize_lt hz))).trans hz
      tok := fun _ p _ hp => ⟨p, hp, rfl, Nat.le_refl _, fun _ => rfl⟩
      heap := by rw [alloc_size]; omega
      base := rfl
      w0 := rfl
      immB := fun _ _ hi _ => hi }
  have hv : ∀ v x, VRel G w v x → VRel (G.addRho st.heap.length w.heap.size) (w.alloc o) v x := fun v x hv => hv.inv h hE
  refine ⟨?_, hE⟩
  exact {
    dom := fun l B hl => by
      simp only [Gh.addRho] at hl
      split at hl
      · simp; omega
      · have := h.dom l B hl; simp; omega
    img := fun l B hl => by
      rw [alloc_size]
      simp only [Gh.addRho] at hl
      split at hl
      · injection hl with hl; subst hl; exact ⟨h.bsz, by omega⟩
      · have := h.img l B hl; exact ⟨this.1, by omega⟩
    inj := fun l l' B hl hl' => by
      simp only [Gh.addRho] at hl hl'
      split at hl <;> split at hl'
      · omega
      · injection hl with hl; subst hl; have := h.img _ _ hl'; omega
      · injection hl' with hl'; subst hl'; have := h.img _ _ hl; omega
      · exact h.inj l l' B hl hl'
    blk := fun l b' hl => by
      rcases Nat.lt_or_ge l st.heap.length with hlt | hge
      · rw [List.getElem?_append_left hlt] at hl
        obtain ⟨B, h1, h2⟩ := h.blk l b' hl
        refine ⟨B, by simp [Gh.addRho, Nat.ne_of_lt hlt, h1], h2.keep hv (alloc_old w o (h.img l B h1).2) (fun _ hi => hi) (fun _ hi => hi)⟩
      · rw [List.getElem?_append_right hge] at hl
        have : l = st.heap.length := by
          rcases Nat.lt_or_ge (l - st.heap.length) 1 with hh | hh
          · omega
          · simp [List.getElem?_eq_none (by simpa using hh : [b].length ≤ _)] at hl
        subst this
        simp at hl
        subst hl
        exact ⟨w.heap.size, by simp [Gh.addRho], hb _ _ hv (alloc_new w o) (fun i hi => by have := h.imm_lt (o := i) hi; omega)⟩
    tl := h.tl
    tdom := fun k i hk => by
      obtain ⟨a1, a2, ⟨z, a3, a4, a5⟩, a6, a7⟩ := h.tdom k i hk
      have hlt := bsize_lt a3
      refine ⟨a1, a2, ⟨z, (bsize_of_block (alloc_old w o hlt)).trans a3, a4, fun p hp hz => (frozen_of_block (alloc_old w o hlt) p).trans (a5 p hp hz)⟩, a6, fun l hl => ?_⟩
      simp only [Gh.addRho] at hl
      split at hl
      · injection hl with hl; omega
      · obtain ⟨vs, hvs⟩ := a7 l hl
        exact ⟨vs, by rw [List.getElem?_append_left (h.dom l _ hl)]; exact hvs⟩
    tinj := h.tinj
    cells := fun b o' hi => by
      obtain ⟨v, hv⟩ := h.cells b o' hi
      exact ⟨v, by rw [cell_of_block (alloc_old w o (cell_lt hv))]; exact hv⟩
    below := h.below.trans ⟨rfl, rfl, rfl, by rw [alloc_size]; omega, fun k hk => alloc_old w o (Nat.lt_of_lt_of_le hk h.bsz)⟩
    bsz := by rw [alloc_size]; have := h.bsz; show G.base ≤ _; omega }


/-! A new block of which the abstract machine knows nothing. -/

theorem Inv.allocGarbage {G : Gh} {w : World} {st : St} (h : Inv G w st) (o : Obj) :
    Inv G (w.alloc o) st ∧ Ext G w G (w.alloc o) st.heap.length st.toks.length := by
  have hE : Ext G w G (w.alloc o) st.heap.length st.toks.length :=
    { rho := fun l hl => rfl
      imm := fun _ _ hi => hi
      cell := fun b o' hi => cell_of_block (alloc_old w o (h.imm_lt hi)) o'
      size := fun b z hz => (bsize_of_block (alloc_old w o (bsize_lt hz))).trans hz
      tok := fun _ p _ hp => ⟨p, hp, rfl, Nat.le_refl _, fun _ => rfl⟩
      heap := by rw [alloc_size]; omega
      base := rfl
      w0 := rfl
      immB := fun _ _ hi _ => hi }
  refine ⟨?_, hE⟩
  exact {
    dom := h.dom
    img := fun l B hl => by rw [alloc_size]; have := h.img l B hl; exact ⟨this.1, by omega⟩
    inj := h.inj
    blk := fun l b' hl => by
      obtain ⟨B, h1, h2⟩ := h.blk l b' hl
      exact ⟨B, h1, h2.keep (fun v x hv => hv.inv h hE) (alloc_old w o (h.img l B h1).2) (fun _ hi => hi) (fun _ hi => hi)⟩
    tl := h.tl
    tdom := fun k i hk => by
      obtain ⟨a1, a2, ⟨z, a3, a4, a5⟩, a6, a7⟩ := h.tdom k i hk
      have hlt := bsize_lt a3
      exact ⟨a1, a2, ⟨z, (bsize_of_block (alloc_old w o hlt)).trans a3, a4, fun p hp hz => (frozen_of_block (alloc_old w o hlt) p).trans (a5 p hp hz)⟩, a6, a7⟩
    tinj := h.tinj
    cells := fun b o' hi => by
      obtain ⟨v, hv⟩ := h.cells b o' hi
      exact ⟨v, by rw [cell_of_block (alloc_old w o (cell_lt hv))]; exact hv⟩
    below := h.below.trans ⟨rfl, rfl, rfl, by rw [alloc_size]; omega, fun k hk => alloc_old w o (Nat.lt_of_lt_of_le hk h.bsz)⟩
    bsz := by rw [alloc_size]; have := h.bsz; omega }

/-! More cells that never turn again. -/

def Gh.addImm (G : Gh) (S : Nat → Nat → Prop) : Gh := { G with imm := fun b o => G.imm b o ∨ S b o }

theorem Ext.addImm (G : Gh) (w : World) (S : Nat → Nat → Prop) (n m : Nat) (hS : ∀ b o, S b o → G.base ≤ b) : Ext G w (G.addImm S) w n m :=
  ⟨fun _ _ => rfl, fun _ _ h => .inl h, fun _ _ _ => rfl, fun _ _ h => h, fun _ p _ h => ⟨p, h, rfl, Nat.le_refl _, fun _ => rfl⟩, Nat.le_refl _, rfl, rfl, fun b o hi hb => hi.elim id fun hs => by have := hS b o hs; omega⟩

theorem Inv.addImm {G : Gh} {w : World} {st : St} (h : Inv G w st) (S : Nat → Nat → Prop) (h1 : ∀ b o, S b o → ∃ v, w.cell? ⟨b, o, none⟩ = some v)
    (h2 : ∀ b o, S b o → ∀ l, G.rho l = some b → ∃ vs, st.heap[l]? = some (.cells true vs)) (h3 : ∀ b o, S b o → ∀ k i, G.tau k = some i → i.b = b → o < i.lo) (hS : ∀ b o, S b o → G.base ≤ b) :
    Inv (G.addImm S) w st where
  dom := h.dom
  img := h.img
  inj := h.inj
  blk l b hl := by
    obtain ⟨B, q1, q2⟩ := h.blk l b hl
    refine ⟨B, q1, q2.keep (fun v x hv => hv.inv h (Ext.addImm G w S _ _ hS)) rfl (fun _ hi => .inl hi) (fun ⟨vs, hvs⟩ hn o ho => ?_)⟩
    rcases ho with ho | ho
    · exact hn o ho
    · obtain ⟨vs', hvs'⟩ := h2 B o ho l q1
      rw [hl] at hvs'
      subst hvs
      injection hvs' with e
      injection e with e1
      exact absurd e1 (by decide)
  tl := h.tl
  tdom k i hk := by
    obtain ⟨a1, a2, a3, a6, a7⟩ := h.tdom k i hk
    refine ⟨a1, a2, a3, fun o ho hi => ?_, a7⟩
    rcases hi with hi | hi
    · exact a6 o ho hi
    · have := h3 i.b o hi k i hk rfl; omega
  tinj := h.tinj
  cells b o hi := hi.elim (h.cells b o) (h1 b o)
  below := h.below
  bsz := h.bsz

/-! Tokens. -/

def Gh.setTok (G : Gh) (k : Nat) (p : Nat × Nat) (i : Option TokI) : Gh := { G with tl := fun j => if j = k then some p else G.tl j, tau := fun j => if j = k then i else G.tau j }

theorem Ext.setTok (G : Gh) (w : World) {k : Nat} {p p0 : Nat × Nat} (i : Option TokI) (n m : Nat) (h0 : G.tl k = some p0 ∨ m ≤ k) (h1 : G.tl k = some p0 → p.2 = p0.2 ∧ p0.1 < p.1) : Ext G w (G.setTok k p i) w n m := by
  refine ⟨fun _ _ => rfl, fun _ _ h => h, fun _ _ _ => rfl, fun _ _ h => h, fun j q hj hq => ?_, Nat.le_refl _, rfl, rfl, fun _ _ h _ => h⟩
  by_cases e : j = k
  · subst e
    rcases h0 with h0 | h0
    · rw [h0] at hq
      injection hq with hq
      subst hq
      have := h1 h0
      exact ⟨p, by simp [Gh.setTok], this.1, by omega, fun e => by omega⟩
    · omega
  · exact ⟨q, by simp [Gh.setTok, e, hq], rfl, Nat.le_refl _, fun _ => by simp [Gh.setTok, e]⟩

theorem Inv.setTok {G : Gh} {w : World} {st : St} (h : Inv G w st) {k : Nat} {p : Nat × Nat} {i : Option TokI} {toks : List (Nat × Nat)}
    (hE : Ext G w (G.setTok k p i) w st.heap.length st.toks.length) (hlen : st.toks.length ≤ toks.length)
    (ht : ∀ j, toks[j]? = if j = k then some p else st.toks[j]?)
    (hi : ∀ i', i = some i' → G.base ≤ i'.b ∧ (∃ z, bsize w i'.b = some z ∧ i'.lo ≤ z ∧ ∀ o, i'.lo ≤ o → o < z → w.frozen? ⟨i'.b, o, none⟩ = false) ∧
      (∀ o, i'.lo ≤ o → ¬ G.imm i'.b o) ∧ (∀ l, G.rho l = some i'.b → ∃ vs, st.heap[l]? = some (.cells true vs)) ∧ (∀ j i2, j ≠ k → G.tau j = some i2 → i2.b ≠ i'.b)) :
    Inv (G.setTok k p i) w { st with toks := toks } where
  dom := h.dom
  img := h.img
  inj := h.inj
  blk l b hl := by
    obtain ⟨B, q1, q2⟩ := h.blk l b hl
    exact ⟨B, q1, q2.keep (fun v x hv => hv.inv h hE) rfl (fun _ hi => hi) (fun _ hn => hn)⟩
  tl j := by
    show (if j = k then some p else G.tl j) = toks[j]?
    rw [ht j, h.tl j]
  tdom j i' hj := by
    by_cases e : j = k
    · subst e
      simp only [Gh.setTok, if_true] at hj
      obtain ⟨a2, a3, a6, a7, _⟩ := hi i' hj
      have : toks[j]? = some p := by simp [ht]
      exact ⟨(List.getElem?_eq_some_iff.1 this).1, a2, a3, a6, a7⟩
    · simp only [Gh.setTok, if_neg e] at hj
      obtain ⟨a1, a2, a3, a6, a7⟩ := h.tdom j i' hj
      exact ⟨Nat.lt_of_lt_of_le a1 hlen, a2, a3, a6, a7⟩
  tinj j j' i1 i2 hj hj' hb := by
    simp only [Gh.setTok] at hj hj'
    split at hj <;> split at hj'
    · omega
    · exact absurd hb.symm ((hi i1 hj).2.2.2.2 j' i2 (by assumption) hj')
    · exact absurd hb ((hi i2 hj').2.2.2.2 j i1 (by assumption) hj)
    · exact h.tinj j j' i1 i2 hj hj' hb
  cells := h.cells
  below := h.below
  bsz := h.bsz

/-- A token is taken: a slice whose capacity is its length. -/
theorem Inv.newTok {G : Gh} {w : World} {st : St} (h : Inv G w st) (p : Nat × Nat) :
    Inv (G.setTok st.toks.length p none) w { st with toks := st.toks ++ [p] } ∧ Ext G w (G.setTok st.toks.length p none) w st.heap.length st.toks.length := by
  have hn : G.tl st.toks.length = none := by rw [h.tl]; simp
  have hE : Ext G w (G.setTok st.toks.length p none) w st.heap.length st.toks.length := Ext.setTok G w (p0 := p) none _ _ (.inr (Nat.le_refl _)) (fun e => by rw [hn] at e; cases e)
  refine ⟨h.setTok hE (by simp) (fun j => ?_) (fun i' e => by cases e), hE⟩
  by_cases e : j = st.toks.length
  · subst e; simp
  · rw [if_neg e]
    rcases Nat.lt_or_ge j st.toks.length with hl | hl
    · rw [List.getElem?_append_left hl]
    · rw [List.getElem?_append_right hl, List.getElem?_eq_none (by simp; omega), List.getElem?_eq_none hl]

theorem Inv.reTok {G : Gh} {w : World} {st : St} (h : Inv G w st) {k n n' sz : Nat} (i : Option TokI) (hk : st.toks[k]? = some (n, sz)) (hn : n < n')
    (hi : ∀ i', i = some i' → G.base ≤ i'.b ∧ (∃ z, bsize w i'.b = some z ∧ i'.lo ≤ z ∧ ∀ o, i'.lo ≤ o → o < z → w.frozen? ⟨i'.b, o, none⟩ = false) ∧
      (∀ o, i'.lo ≤ o → ¬ G.imm i'.b o) ∧ (∀ l, G.rho l = some i'.b → ∃ vs, st.heap[l]? = some (.cells true vs)) ∧ (∀ j i2, j ≠ k → G.tau j = some i2 → i2.b ≠ i'.b)) :
    Inv (G.setTok k (n', sz) i) w { st with toks := st.toks.set k (n', sz) } ∧ Ext G w (G.setTok k (n', sz) i) w st.heap.length st.toks.length := by
  have hE : Ext G w (G.setTok k (n', sz) i) w st.heap.length st.toks.length := Ext.setTok G w (p0 := (n, sz)) i _ _ (.inl (by rw [h.tl]; exact hk)) (fun _ => ⟨rfl, hn⟩)
  refine ⟨h.setTok hE (by simp) (fun j => ?_) hi, hE⟩
  by_cases e : j = k
  · subst e; simp [List.getElem?_set, (List.getElem?_eq_some_iff.1 hk).1]
  · rw [if_neg e, List.getElem?_set, if_neg (fun e' => e e'.symm)]

/-! Stores. -/

theorem setCell_old (w : World) (a : Addr) (u : Value) {k : Nat} (h : k ≠ a.block) : (w.setCell a u).heap[k]? = w.heap[k]? := Below.heap_setCell w a u k h

theorem setCell_cells {w : World} {b o : Nat} {u : Value} {c : Array Value} {e : TypeId} {fr : Nat × Nat} (h : w.heap[b]? = some (.cells c e fr)) : (w.setCell ⟨b, o, none⟩ u).heap[b]? = some (.cells (c.setIfInBounds o u) e fr) := by
  show (w.heap.modify b _)[b]? = _
  rw [Array.getElem?_modify, if_pos rfl, h]
  simp

theorem setCell_size (w : World) (a : Addr) (u : Value) : (w.setCell a u).heap.size = w.heap.size := by simp [World.setCell]

theorem setCell_bsize (w : World) (a : Addr) (u : Value) (b : Nat) : bsize (w.setCell a u) b = bsize w b := by
  by_cases e : b = a.block
  · subst e
    simp only [bsize, World.setCell, Array.getElem?_modify, if_true]
    cases hh : w.heap[a.block]? with
    | none => simp
    | some o => cases o <;> simp <;> split <;> simp
  · exact bsize_of_block (setCell_old w a u e)

theorem setCell_frozen (w : World) (a : Addr) (u : Value) (b o : Nat) : (w.setCell a u).frozen? ⟨b, o, none⟩ = w.frozen? ⟨b, o, none⟩ := by
  by_cases e : b = a.block
  · subst e
    simp only [World.frozen?, World.setCell, Array.getElem?_modify, if_true]
    cases hh : w.heap[a.block]? with
    | none => simp
    | some x => cases x <;> simp
  · exact frozen_of_block (setCell_old w a u e) o

theorem setCell_other (w : World) (b o : Nat) (u : Value) {b' o' : Nat} (h : ¬ (b' = b ∧ o' = o)) : (w.setCell ⟨b, o, none⟩ u).cell? ⟨b', o', none⟩ = w.cell? ⟨b', o', none⟩ := by
  by_cases e : b' = b
  · subst e
    have ho : o' ≠ o := fun e => h ⟨rfl, e⟩
    simp only [World.cell?, World.setCell, Array.getElem?_modify, if_true]
    cases hh : w.heap[b']? with
    | none => simp
    | some x => cases x <;> simp [Array.getElem?_setIfInBounds, Ne.symm ho]
  · exact cell_of_block (setCell_old w ⟨b, o, none⟩ u e) o'

theorem setCell_some {w : World} {b o b' o' : Nat} {u v : Value} (h : w.cell? ⟨b', o', none⟩ = some v) : ∃ v', (w.setCell ⟨b, o, none⟩ u).cell? ⟨b', o', none⟩ = some v' := by
  by_cases e : b' = b ∧ o' = o
  · obtain ⟨rfl, rfl⟩ := e
    simp only [World.cell?, World.setCell, Array.getElem?_modify, if_true] at h ⊢
    cases hh : w.heap[b']? with
    | none => simp [hh] at h
    | some x =>
      cases x with
      | cells c e f =>
        rw [hh] at h
        simp at h
        have hlt : o' < c.size := by
          rcases Nat.lt_or_ge o' c.size with hl | hl
          · exact hl
          · simp [Array.getElem?_eq_none hl] at h
        exact ⟨u, by simp [Array.getElem?_setIfInBounds, hlt]⟩
      | _ => simp [hh] at h
  · exact ⟨v, by rw [setCell_other w b o u e]; exact h⟩

/-- A store to a cell that is not among those that never turn: the relation of values holds on. -/
theorem Ext.setCell {G : Gh} {w : World} {b o : Nat} (u : Value) (n m : Nat) (h : ¬ G.imm b o) : Ext G w G (w.setCell ⟨b, o, none⟩ u) n m :=
  ⟨fun _ _ => rfl, fun _ _ h => h, fun b' o' hi => setCell_other w b o u (fun e => h (by rw [← e.1, ← e.2]; exact hi)), fun b' z hz => by rw [setCell_bsize]; exact hz,
    fun _ p _ hp => ⟨p, hp, rfl, Nat.le_refl _, fun _ => rfl⟩, by rw [setCell_size]; exact Nat.le_refl _, rfl, rfl, fun _ _ h _ => h⟩

theorem Inv.setCell {G : Gh} {w : World} {st st' : St} (h : Inv G w st) {b o : Nat} {u : Value} (hn : ¬ G.imm b o) (hbase : G.base ≤ b)
    (hst : st'.heap.length = st.heap.length ∧ st'.toks = st.toks)
    (hblk : ∀ (l : Nat) (x : Blk), st'.heap[l]? = some x → ∀ B, G.rho l = some B → BlkRel G (w.setCell ⟨b, o, none⟩ u) B x)
    (hfz : ∀ (l : Nat) (vs : List AV), st.heap[l]? = some (.cells true vs) → ∃ vs', st'.heap[l]? = some (.cells true vs')) : Inv G (w.setCell ⟨b, o, none⟩ u) st' where
  dom l B hl := by rw [hst.1]; exact h.dom l B hl
  img l B hl := by rw [setCell_size]; exact h.img l B hl
  inj := h.inj
  blk l x hl := by
    have hlt : l < st.heap.length := by rw [← hst.1]; exact (List.getElem?_eq_some_iff.1 hl).1
    obtain ⟨B, q1, _⟩ := h.blk l _ (List.getElem?_eq_getElem hlt)
    exact ⟨B, q1, hblk l x hl B q1⟩
  tl k := by rw [hst.2]; exact h.tl k
  tdom k i hk := by
    obtain ⟨a1, a2, ⟨z, a3, a4, a5⟩, a6, a7⟩ := h.tdom k i hk
    exact ⟨by rw [hst.2]; exact a1, a2, ⟨z, by rw [setCell_bsize]; exact a3, a4, fun p hp hz => by rw [setCell_frozen]; exact a5 p hp hz⟩, a6, fun l hl => by obtain ⟨vs, hvs⟩ := a7 l hl; exact hfz l vs hvs⟩
  tinj := h.tinj
  cells b' o' hi := by obtain ⟨v, hv⟩ := h.cells b' o' hi; exact setCell_some hv
  below := h.below.setCell hbase u
  bsz := by rw [setCell_size]; exact h.bsz

theorem BlkRel.setCell_other {G : Gh} {w : World} {b o B : Nat} {u : Value} {x : Blk} (h : BlkRel G w B x) (hn : ¬ G.imm b o) (hB : B ≠ b) {st : St} (hI : Inv G w st) : BlkRel G (w.setCell ⟨b, o, none⟩ u) B x :=
  h.keep (fun v y hv => hv.inv hI (Ext.setCell u _ _ hn)) (setCell_old w ⟨b, o, none⟩ u hB) (fun _ hi => hi) (fun _ hn => hn)

/-- A store into a block that may be written. -/
theorem Inv.storeMut {G : Gh} {w : World} {st : St} (h : Inv G w st) {l off B : Nat} {vs : List AV} {v : AV} {u : Value} (hl : st.heap[l]? = some (.cells false vs)) (hB : G.rho l = some B) (hoff : off < vs.length) (hv : VRel G w v u) (h1 : u.oneCell' = true) :
    Inv G (w.setCell ⟨B, off, none⟩ u) { st with heap := st.heap.set l (.cells false (vs.set off v)) } ∧ Ext G w G (w.setCell ⟨B, off, none⟩ u) st.heap.length st.toks.length ∧
      (∃ y, w.cell? ⟨B, off, none⟩ = some y) ∧ w.frozen? ⟨B, off, none⟩ = false := by
  obtain ⟨B', q1, c, elem, fr, q2, q3, q4, q5, q6⟩ := h.blk l _ hl
  rw [hB] at q1
  injection q1 with q1
  subst q1
  have hE : Ext G w G (w.setCell ⟨B, off, none⟩ u) st.heap.length st.toks.length := Ext.setCell u _ _ (q5 off)
  refine ⟨?_, hE, ?_, q6 off (by omega)⟩
  · refine h.setCell (q5 off) (h.img l B hB).1 ⟨by simp, rfl⟩ (fun l' x hx B' hB' => ?_) (fun l' vs' hl' => ?_)
    · by_cases e : l' = l
      · subst e
        rw [hB] at hB'
        injection hB' with hB'
        subst hB'
        have hlt := (List.getElem?_eq_some_iff.1 hl).1
        simp [List.getElem?_set, hlt] at hx
        subst hx
        refine ⟨_, elem, fr, setCell_cells q2, by simpa using q3, fun i v' x' hi hx' => ?_, q5, fun p hp => ?_⟩
        · by_cases ei : i = off
          · subst ei
            simp [List.getElem?_set, hoff] at hi
            simp [Array.getElem?_setIfInBounds, (by omega : i < c.size)] at hx'
            subst hi; subst hx'
            exact ⟨hv.inv h hE, h1⟩
          · rw [List.getElem?_set, if_neg (fun e => ei e.symm)] at hi
            rw [Array.getElem?_setIfInBounds, if_neg (fun e => ei e.symm)] at hx'
            exact ⟨(q4 i v' x' hi hx').1.inv h hE, (q4 i v' x' hi hx').2⟩
        · rw [setCell_frozen]; exact q6 p (by simpa using hp)
      · rw [List.getElem?_set, if_neg (fun e' => e e'.symm)] at hx
        obtain ⟨B2, r1, r2⟩ := h.blk l' x hx
        rw [hB'] at r1
        injection r1 with r1
        subst r1
        exact r2.setCell_other (q5 off) (fun eB => e (h.inj _ _ _ hB' (by rw [eB]; exact hB))) h
    · by_cases e : l' = l
      · subst e; rw [hl] at hl'; injection hl' with e1; injection e1 with e2; exact absurd e2 (by decide)
      · exact ⟨vs', by simp only []; rw [List.getElem?_set, if_neg (fun e' => e e'.symm)]; exact hl'⟩
  · have : off < c.size := by omega
    exact ⟨c[off], by simp [World.cell?, q2, this]⟩

/-- A store into a token's spare room. -/
theorem Inv.storeSpare {G : Gh} {w : World} {st : St} (h : Inv G w st) {k : Nat} {i : TokI} (hk : G.tau k = some i) {o : Nat} (ho : i.lo ≤ o) (u : Value) :
    Inv G (w.setCell ⟨i.b, o, none⟩ u) st ∧ Ext G w G (w.setCell ⟨i.b, o, none⟩ u) st.heap.length st.toks.length := by
  obtain ⟨a1, a2, a3, a6, a7⟩ := h.tdom k i hk
  refine ⟨h.setCell (a6 o ho) a2 ⟨rfl, rfl⟩ (fun l x hx B hB => ?_) (fun l vs hl => ⟨vs, hl⟩), Ext.setCell u _ _ (a6 o ho)⟩
  obtain ⟨B2, r1, r2⟩ := h.blk l x hx
  rw [hB] at r1
  injection r1 with r1
  subst r1
  by_cases e : B = i.b
  · subst e
    obtain ⟨vs, hvs⟩ := a7 l hB
    rw [hx] at hvs
    injection hvs with hvs
    subst hvs
    obtain ⟨c, elem, fr, q2, q3, q4, q5⟩ := r2
    refine ⟨_, elem, fr, setCell_cells q2, by simpa using q3, fun j v' x' hj hx' => ?_, q5⟩
    have hlt : j < vs.length := (List.getElem?_eq_some_iff.1 hj).1
    have hne : ¬ o = j := fun e => a6 o ho (by rw [e]; exact q5 j hlt)
    rw [Array.getElem?_setIfInBounds, if_neg hne] at hx'
    exact ⟨(q4 j v' x' hj hx').1.inv h (Ext.setCell u _ _ (a6 o ho)), (q4 j v' x' hj hx').2⟩
  · exact r2.setCell_other (a6 o ho) e h

/-- A block that may be written is written no more. -/
theorem Inv.freezeBlk {G : Gh} {w : World} {st : St} (h : Inv G w st) {l B : Nat} {vs : List AV} {fz : Bool} (hl : st.heap[l]? = some (.cells fz vs)) (hB : G.rho l = some B) :
    Inv (G.addImm fun b o => b = B ∧ o < vs.length) w { st with heap := st.heap.set l (.cells true vs) } ∧
    Ext G w (G.addImm fun b o => b = B ∧ o < vs.length) w st.heap.length st.toks.length := by
  have hlt := (List.getElem?_eq_some_iff.1 hl).1
  obtain ⟨B', q1, c, elem, fr, q2, q3, q4, q5⟩ := h.blk l _ hl
  rw [hB] at q1
  injection q1 with q1
  subst q1
  have hE := Ext.addImm G w (fun b o => b = B ∧ o < vs.length) st.heap.length st.toks.length (fun b o hb => by rw [hb.1]; exact (h.img l B hB).1)
  refine ⟨?_, hE⟩
  exact {
    dom := fun l' B' hl' => by simpa using h.dom l' B' hl'
    img := h.img
    inj := h.inj
    blk := fun l' x hx => by
      by_cases e : l' = l
      · subst e
        simp [List.getElem?_set, hlt] at hx
        subst hx
        exact ⟨B, hB, c, elem, fr, q2, q3, fun i v x hi hx => ⟨(q4 i v x hi hx).1.inv h hE, (q4 i v x hi hx).2⟩, fun i hi => .inr ⟨rfl, hi⟩⟩
      · rw [List.getElem?_set, if_neg (fun e' => e e'.symm)] at hx
        obtain ⟨B2, r1, r2⟩ := h.blk l' x hx
        refine ⟨B2, r1, r2.keep (fun v x hv => hv.inv h hE) rfl (fun _ hi => .inl hi) (fun _ hn o ho => ?_)⟩
        rcases ho with ho | ho
        · exact hn o ho
        · exact e (h.inj _ _ _ r1 (by rw [ho.1]; exact hB))
    tl := h.tl
    tdom := fun k i hk => by
      obtain ⟨a1, a2, a3, a6, a7⟩ := h.tdom k i hk
      refine ⟨a1, a2, a3, fun o ho hi => ?_, fun l' hl' => ?_⟩
      · rcases hi with hi | ⟨e1, e2⟩
        · exact a6 o ho hi
        · obtain ⟨vs', hvs'⟩ := a7 l (by rw [e1]; exact hB)
          rw [hl] at hvs'
          injection hvs' with e3
          injection e3 with e4 e5
          subst e4
          exact a6 o ho (by rw [e1]; exact q5 o e2)
      · obtain ⟨vs', hvs'⟩ := a7 l' hl'
        by_cases e : l' = l
        · subst e; exact ⟨vs, by simp [List.getElem?_set, hlt]⟩
        · exact ⟨vs', by simp only []; rw [List.getElem?_set, if_neg (fun e' => e e'.symm)]; exact hvs'⟩
    tinj := h.tinj
    cells := fun b o hi => by
      rcases hi with hi | ⟨rfl, e2⟩
      · exact h.cells b o hi
      · have : o < c.size := by omega
        exact ⟨c[o], by simp [World.cell?, q2, this]⟩
    below := h.below
    bsz := h.bsz }


theorem set_set' {α : Type} (l : List α) (i : Nat) (a b : α) : (l.set i a).set i b = l.set i b := by simp

/-- Stores of a row of cells into a block that may be written. -/
theorem Inv.storeMuts {l B : Nat} {G : Gh} : ∀ (cs : List AV) (us : List Value) (w : World) (st : St) (vs : List AV) (off : Nat), Inv G w st → st.heap[l]? = some (.cells false vs) → G.rho l = some B → off + cs.length ≤ vs.length → cs.length = us.length →
    (∀ (i : Nat) (c : AV) (u : Value), cs[i]? = some c → us[i]? = some u → VRel G w c u ∧ u.oneCell' = true) →
    Inv G (w.setCells B off us) { st with heap := st.heap.set l (.cells false (setRange vs off cs)) } ∧ Ext G w G (w.setCells B off us) st.heap.length st.toks.length
  | [], [], w, st, vs, off, h, hl, hB, hoff, hlen, hv => by
    have : st.heap.set l (.cells false vs) = st.heap := by
      apply List.ext_getElem?
      intro i
      by_cases e : l = i
      · subst e; rw [List.getElem?_set, if_pos rfl, if_pos (List.getElem?_eq_some_iff.1 hl).1, hl]
      · rw [List.getElem?_set, if_neg e]
    simp only [setRange, World.setCells, this]
    exact ⟨h, Ext.refl _ _ _ _⟩
  | c :: cs, u :: us, w, st, vs, off, h, hl, hB, hoff, hlen, hv => by
    have h0 := hv 0 c u rfl rfl
    obtain ⟨i1, e1, _, _⟩ := h.storeMut (vs := vs) (off := off) hl hB (by simp at hoff; omega) h0.1 h0.2
    have hlt := (List.getElem?_eq_some_iff.1 hl).1
    obtain ⟨i2, e2⟩ := Inv.storeMuts cs us (w.setCell ⟨B, off, none⟩ u) { st with heap := st.heap.set l (.cells false (vs.set off c)) } (vs.set off c) (off + 1) i1 (by simp [List.getElem?_set, hlt]) hB (by simp at hoff ⊢; omega) (by simpa using hlen)
      (fun i c' u' hc hu => ⟨(hv (i + 1) c' u' (by simpa using hc) (by simpa using hu)).1.inv h e1, (hv (i + 1) c' u' (by simpa using hc) (by simpa using hu)).2⟩)
    simp only [set_set'] at i2
    exact ⟨i2, e1.trans e2 (by simp) (by simp)⟩
  | [], u :: us, _, _, _, _, _, _, _, _, hlen, _ => by simp at hlen
  | c :: cs, [], _, _, _, _, _, _, _, _, hlen, _ => by simp at hlen

theorem Inv.storeSpares {G : Gh} {k : Nat} {i : TokI} (hk : G.tau k = some i) : ∀ (us : List Value) (w : World) (st : St) (o : Nat), Inv G w st → i.lo ≤ o →
    Inv G (w.setCells i.b o us) st ∧ Ext G w G (w.setCells i.b o us) st.heap.length st.toks.length
  | [], w, st, o, h, ho => ⟨h, Ext.refl _ _ _ _⟩
  | u :: us, w, st, o, h, ho => by
    obtain ⟨i1, e1⟩ := h.storeSpare hk ho u
    obtain ⟨i2, e2⟩ := Inv.storeSpares hk us (w.setCell ⟨i.b, o, none⟩ u) st (o + 1) i1 (by omega)
    exact ⟨i2, e1.trans e2 (Nat.le_refl _) (Nat.le_refl _)⟩

theorem setCells_get (b : Nat) : ∀ (us : List Value) (w : World) (o : Nat), (∀ j, j < us.length → ∃ v, w.cell? ⟨b, o + j, none⟩ = some v) → ∀ j (hj : j < us.length), (w.setCells b o us).cell? ⟨b, o + j, none⟩ = some us[j]
  | [], _, _, _, j, hj => by simp at hj
  | u :: us, w, o, h, j, hj => by
    have hset : (w.setCell ⟨b, o, none⟩ u).cell? ⟨b, o, none⟩ = some u := by
      obtain ⟨v, hv⟩ := h 0 (by simp)
      simp only [World.cell?, World.setCell, Array.getElem?_modify, if_true, Nat.add_zero] at hv ⊢
      cases hh : w.heap[b]? with
      | none => simp [hh] at hv
      | some x =>
        cases x with
        | cells c e f =>
          rw [hh] at hv
          simp at hv
          have hlt : o < c.size := by
            rcases Nat.lt_or_ge o c.size with hl | hl
            · exact hl
            · simp [Array.getElem?_eq_none hl] at hv
          simp [Array.getElem?_setIfInBounds, hlt]
        | _ => simp [hh] at hv
    have hkeep : ∀ (us : List Value) (w : World) (o' : Nat), o < o' → (w.setCells b o' us).cell? ⟨b, o, none⟩ = w.cell? ⟨b, o, none⟩ := by
      intro us
      induction us with
      | nil => intros; rfl
      | cons u us ih =>
        intro w o' ho
        show ((w.setCell ⟨b, o', none⟩ u).setCells b (o' + 1) us).cell? _ = _
        rw [ih _ _ (by omega), setCell_other w b o' u (by omega)]
    cases j with
    | zero =>
      show ((w.setCell ⟨b, o, none⟩ u).setCells b (o + 1) us).cell? ⟨b, o + 0, none⟩ = _
      have := hkeep us (w.setCell ⟨b, o, none⟩ u) (o + 1) (by omega)
      rw [hset] at this
      exact this
    | succ j =>
      have ih := setCells_get b us (w.setCell ⟨b, o, none⟩ u) (o + 1) (fun j hj => by
        obtain ⟨v, hv⟩ := h (j + 1) (by simp; omega)
        exact setCell_some (v := v) (by rw [show o + 1 + j = o + (j + 1) by omega]; exact hv)) j (by simpa using hj)
      show ((w.setCell ⟨b, o, none⟩ u).setCells b (o + 1) us).cell? ⟨b, o + (j + 1), none⟩ = _
      rw [show o + (j + 1) = o + 1 + j by omega, ih]
      rfl

end Go.Am

/- The abstract machine's operations, and what an operation of the model is compiled to. -/
namespace Go.Am

mutual
def AV.norm : AV → AV
  | .sl _ es => .sl .any (normL es)
  | .rptr v => .rptr v.norm
  | .agg cs => .agg (normL cs)
  | .tup vs => .tup (normL vs)
  | .fn f a b => .fn f (normL a) (normL b)
  | .any => .any
  | .bool b => .bool b
  | .int k n => .int k n
  | .str l => .str l
  | .nilp => .nilp
  | .ptr l o => .ptr l o
  | .msl l o n s => .msl l o n s
  | .map l => .map l
  | .nilfn => .nilfn
  | .ub => .ub
def normL : List AV → List AV
  | [] => []
  | v :: vs => v.norm :: normL vs
end

/-- Elements out of cells: 'none': an element is a cell; 'some k': a struct or an array of k cells. -/
def mkElem (sz : Option Nat) (cs : List AV) : AV :=
  match sz with
  | none => cs.headD .any
  | some _ => .agg cs

def chunk (sz : Option Nat) : Nat → List AV → List AV
  | 0, _ => []
  | n + 1, cs => mkElem sz (cs.take (sz.getD 1)) :: chunk sz n (cs.drop (sz.getD 1))

def allSz (k : Nat) (es : List AV) : Bool := es.all fun e => e.cells.length == k

def isAny : AV → Bool
  | .any => true
  | _ => false

def isAggV : AV → Bool
  | .agg _ => true
  | _ => false

/-- Has the value so many cells, as a struct or an array ('some k') or as what is neither? -/
def shaped (sz : Option Nat) (v : AV) : Bool :=
  match sz, v with
  | some k, .agg cs => cs.length == k
  | some _, _ => false
  | none, .agg _ => false
  | none, .any => false
  | none, .tup _ => false
  | none, _ => true

def toBytes : List AV → Option (List UInt8)
  | [] => some []
  | .int .u8 n :: es => (toBytes es).map (UInt8.ofNat n.toNat :: ·)
  | _ => none

def ofBytes (l : List UInt8) : List AV := l.map fun b => .int .u8 b.toNat

def limit : Nat := 2147483648

/-- How keys of a map are compared: a cell, or cell by cell. -/
inductive KeyK where
  | one (k : Nat)
  | flat (ks : List Nat)
  deriving DecidableEq, Inhabited

/-- How '==' compares: as bools, as addresses (against nil), field by field (0: integers, 1: bools, 2: strings). -/
inductive EqK where
  | none
  | bool
  | ptr
  | flat (ks : List Nat)
  deriving DecidableEq, Inhabited

inductive AOp where
  | id
  | idStr
  | nilc
  | pick
  | bin (op : BinOp) (kind : EqK)
  | un (op : UnOp)
  | build (zero : List AV) (places : List (Nat × Nat))
  | buildSl (sz : Option Nat)
  | extract (i : Nat)
  | field (off : Nat) (sz : Option Nat)
  | fieldAddr (off : Nat) (sz : Option Nat)
  | idxSl (sz : Option Nat)
  | idxArr (len : Nat) (sz : Option Nat)
  | idxArrV (len : Nat) (sz : Option Nat)
  | idxStr
  | len
  | lenStr
  | slcStr (lo hi : Bool)
  | slcSl (sz : Option Nat) (lo hi mx : Bool)
  | slcArr (n : Nat) (sz : Option Nat) (lo hi : Bool)
  | conv (k : IntKind)
  | strOf
  | bytesOf
  | mkfn (f : Fn) (first : Nat)
  | load (sz : Option Nat)
  | store (sz : Option Nat)
  | alloc (zero : List AV)
  | box (sz : Option Nat)
  | append (sz : Option Nat)
  | appendM (sz : Option Nat)
  | boxR (sz : Option Nat)
  | copy (sz : Option Nat)
  | mkslice (sz : Option Nat) (zero : List AV)
  | minmax (mx : Bool)
  | isNil (k : Nat) (neg : Bool)
  | mkmap
  | mapGet (kk : KeyK) (zero : AV) (ok : Bool)
  | mapLen
  | mapSet (kk : KeyK)
  | mapEnt (kk : KeyK) (zero : AV)
  | entSet
  | mapDel (kk : KeyK)
  | mapClr
  deriving Inhabited

inductive Cls where
  | pure | read | write | tok
  deriving DecidableEq, Inhabited

def AOp.cls : AOp → Cls
  | .load _ | .strOf | .slcArr .. | .mapGet .. | .mapLen => .read
  | .mkmap | .mapSet _ | .mapEnt .. | .entSet | .mapDel _ | .mapClr | .store _ | .alloc _ | .box _ | .copy _ | .mkslice .. | .appendM _ => .write
  | .append _ => .tok
  | _ => .pure

def intBin (op : BinOp) (k : IntKind) (x y : Int) : Option AV :=
  match op with
  | .add => some (.int k (k.wrap (x + y)))
  | .sub => some (.int k (k.wrap (x - y)))
  | .mul => some (.int k (k.wrap (x * y)))
  | .quo => if y = 0 then none else some (.int k (k.wrap (x.tdiv y)))
  | .rem => if y = 0 then none else some (.int k (x.tmod y))
  | .and => some (.int k (k.wrap (BitVec.ofInt k.bits x &&& BitVec.ofInt k.bits y).toNat))
  | .or => some (.int k (k.wrap (BitVec.ofInt k.bits x ||| BitVec.ofInt k.bits y).toNat))
  | .xor => some (.int k (k.wrap (BitVec.ofInt k.bits x ^^^ BitVec.ofInt k.bits y).toNat))
  | .andNot => some (.int k (k.wrap (BitVec.ofInt k.bits x &&& ~~~ BitVec.ofInt k.bits y).toNat))
  | .eql => some (.bool (x == y))
  | .neq => some (.bool (x != y))
  | .lss => some (.bool (decide (x < y)))
  | .leq => some (.bool (decide (x ≤ y)))
  | .gtr => some (.bool (decide (x > y)))
  | .geq => some (.bool (decide (x ≥ y)))
  | _ => none

def shiftBin (op : BinOp) (k : IntKind) (x y : Int) : Option AV :=
  if y < 0 then none else
  match op with
  | .shl => some (.int k (k.wrap (x * 2 ^ (min y.toNat k.bits))))
  | .shr => some (.int k (x.fdiv (2 ^ (min y.toNat k.bits))))
  | _ => none

def strBin (op : BinOp) (x y : List UInt8) : Option AV :=
  match op with
  | .add => if ((x.length + y.length : Nat) : Int) > IntKind.i64.max then none else some (.str (x ++ y))
  | .eql => some (.bool (x == y))
  | .neq => some (.bool (!(x == y)))
  | .lss => some (.bool (Op.bytesLess x y))
  | .leq => some (.bool (Op.bytesLess x y || x == y))
  | .gtr => some (.bool (!(Op.bytesLess x y || x == y)))
  | .geq => some (.bool (!(Op.bytesLess x y)))
  | _ => none

def isNilAddr : AV → Option Bool
  | .nilp => some true
  | .ptr _ _ => some false
  | .rptr _ => some false
  | _ => none

/-- Cell by cell: integers of one kind, bools, strings. -/
def eqCell : Nat → AV → AV → Option Bool
  | 0, .int k a, .int k' b => if k = k' then some (a == b) else none
  | 1, .bool a, .bool b => some (a == b)
  | 2, .str a, .str b => some (a == b)
  | _, _, _ => none

def eqCells : List Nat → List AV → List AV → Option Bool
  | [], [], [] => some true
  | k :: ks, a :: as, b :: bs => (eqCell k a b).bind fun r => if r then eqCells ks as bs else some false
  | _, _, _ => none

def eqKind (kind : EqK) (x y : AV) : Option Bool :=
  match kind, x, y with
  | .bool, .bool a, .bool b => some (a == b)
  | .ptr, x, y => (isNilAddr x).bind fun a => (isNilAddr y).bind fun b => if a || b then some (a && b) else none
  | .flat ks, .agg a, .agg b => if a.length = ks.length ∧ b.length = ks.length then eqCells ks a b else none
  | _, _, _ => none

def keyEqA : KeyK → AV → AV → Option Bool
  | .one k, a, b => eqCell k a b
  | .flat ks, a, b => eqKind (.flat ks) a b

/-- Where a key stands. -/
def findA (kk : KeyK) (k : AV) : List (AV × AV × Nat) → Option (Option Nat)
  | [] => some none
  | e :: es => match keyEqA kk k e.1 with
    | some true => some (some 0)
    | some false => (findA kk k es).map (·.map (· + 1))
    | none => none

def bornA (b : Int) : List (AV × AV × Nat) → Option Nat
  | [] => none
  | e :: es => if (e.2.2 : Int) = b then some 0 else (bornA b es).map (· + 1)

def mapRes (ok : Bool) (there : Bool) (v : AV) : AV := if ok then .tup [v, .bool there] else v

def binA (op : BinOp) (kind : EqK) (x y : AV) : Option AV :=
  match op, x, y with
  | .shl, .int k a, .int _ b | .shr, .int k a, .int _ b => shiftBin op k a b
  | op, .int k a, .int k' b => if k = k' then intBin op k a b else none
  | op, .str a, .str b => strBin op a b
  | .eql, x, y => (eqKind kind x y).map .bool
  | .neq, x, y => (eqKind kind x y).map fun b => .bool (!b)
  | _, _, _ => none

def unA (op : UnOp) (x : AV) : Option AV :=
  match op, x with
  | .neg, .int k n => some (.int k (k.wrap (0 - n)))
  | .xor, .int k n => some (.int k (k.wrap (BitVec.ofInt k.bits (if k.signed then -1 else k.max) ^^^ BitVec.ofInt k.bits n).toNat))
  | .not, .bool b => some (.bool !b)
  | _, _ => none

def fillA : List AV → List (Nat × Nat) → List AV → Option (List AV)
  | cs, [], [] => some cs
  | cs, (off, size) :: ps, v :: vs => if isAny v || isTup v || v.cells.length != size || off + v.cells.length > cs.length then none else fillA (setRange cs off v.cells) ps vs
  | _, _, _ => none

def partA (cs : List AV) (off : Nat) (sz : Option Nat) : Option AV :=
  match sz with
  | none => cs[off]?
  | some k => if off + k ≤ cs.length then some (.agg ((cs.drop off).take k)) else none

/-- A bound of a slice expression, at most 'top'. -/
def bnd1 (x : Option AV) (dflt top : Nat) : Option Nat :=
  match x with
  | none => some dflt
  | some (.int _ i) => if 0 ≤ i ∧ i ≤ top then some i.toNat else none
  | _ => none

/-- Low, high, max: which of them stand there; the length. -/
def bounds (lo hi mx : Option AV) (len : Nat) : Option (Nat × Nat × Option Nat) :=
  match mx, hi with
  | none, hi => (bnd1 hi len len).bind fun h => (bnd1 lo 0 h).map fun l => (l, h, none)
  | some m, some h => (bnd1 (some m) 0 len).bind fun m => (bnd1 (some h) 0 m).bind fun h => (bnd1 lo 0 h).map fun l => (l, h, some m)
  | some _, none => none

def args3 (lo hi mx : Bool) (bs : List AV) : Option (Option AV × Option AV × Option AV) :=
  match lo, hi, mx, bs with
  | false, false, false, [] => some (none, none, none)
  | true, false, false, [a] => some (some a, none, none)
  | false, true, false, [b] => some (none, some b, none)
  | false, false, true, [c] => some (none, none, some c)
  | true, true, false, [a, b] => some (some a, some b, none)
  | true, false, true, [a, c] => some (some a, none, some c)
  | false, true, true, [b, c] => some (none, some b, some c)
  | true, true, true, [a, b, c] => some (some a, some b, some c)
  | _, _, _, _ => none

def boundsOf (lo hi mx : Bool) (len : Nat) (bs : List AV) : Option (Nat × Nat × Option Nat) :=
  (args3 lo hi mx bs).bind fun (a, b, c) => bounds a b c len

def nilcA : AV → Option AV
  | .ptr l o => some (.ptr l o)
  | .rptr v => some (.rptr v)
  | .fn (.func f) a b => some (.fn (.func f) a b)
  | _ => none

/-- A slice, a map or a function against the literal nil: a slice without elements may be either. -/
def isNilA : Nat → AV → Option AV
  | 0, .sl _ [] => some .ub
  | 0, .sl _ (_ :: _) => some (.bool false)
  | 0, .msl .. => some (.bool false)
  | 1, .map none => some (.bool true)
  | 1, .map (some _) => some (.bool false)
  | 2, .nilfn => some (.bool true)
  | 2, .fn .. => some (.bool false)
  | _, _ => none

def notA : AV → AV
  | .bool b => .bool !b
  | v => v

def slTok (t : Tok) (b len : Nat) (m : Option Nat) : Tok :=
  match m with
  | some m => if m = b then .clip else .any
  | none => if t = .clip ∧ b = len then .clip else .any

def evP (op : AOp) (args : List AV) : Option AV :=
  match op, args with
  | .id, [x] => some x
  | .nilc, [x] => nilcA x
  | .idStr, [.str l] => some (.str l)
  | .pick, [.bool c, a, b] => some (if c then a else b)
  | .bin op kind, [x, y] => binA op kind x y
  | .un op, [x] => unA op x
  | .build zero places, vs => (fillA zero places vs).map .agg
  | .buildSl sz, vs => if vs.all (shaped sz) then some (.sl .clip vs) else none
  | .extract i, [.tup vs] => vs[i]?
  | .field off sz, [.agg cs] => partA cs off sz
  | .fieldAddr off _, [.ptr l o] => some (.ptr l (o + off))
  | .fieldAddr off sz, [.rptr (.agg cs)] => (partA cs off sz).map .rptr
  | .idxSl sz, [.sl _ es, .int _ i] => if 0 ≤ i then (es[i.toNat]?).bind fun e => if e.cells.length == sz.getD 1 then some (.rptr e) else none else none
  | .idxSl sz, [.msl l off len sz', .int _ i] => if sz = sz' ∧ 0 ≤ i ∧ i < len then some (.ptr l (off + i.toNat * sz.getD 1)) else none
  | .idxArr len sz, [.ptr l off, .int _ i] => if 0 ≤ i ∧ i < len then some (.ptr l (off + i.toNat * sz.getD 1)) else none
  | .idxArr len sz, [.rptr (.agg cs), .int _ i] => if 0 ≤ i ∧ i < len then (partA cs (i.toNat * sz.getD 1) sz).map .rptr else none
  | .idxArrV len sz, [.agg cs, .int _ i] => if 0 ≤ i ∧ i < len then partA cs (i.toNat * sz.getD 1) sz else none
  | .idxStr, [.str l, .int _ i] => if 0 ≤ i then (l[i.toNat]?).map fun b => .int .u8 b.toNat else none
  | .len, [.sl _ es] => some (.int .i64 es.length)
  | .len, [.msl _ _ n _] => some (.int .i64 n)
  | .lenStr, [.str l] => some (.int .i64 l.length)
  | .slcStr lo hi, .str l :: bs => (boundsOf lo hi false l.length bs).map fun (a, b, _) => .str ((l.drop a).take (b - a))
  | .slcSl sz lo hi mx, .sl t es :: bs => (boundsOf lo hi mx es.length bs).bind fun (a, b, m) =>
      if allSz (sz.getD 1) es then some (.sl (slTok t b es.length m) ((es.drop a).take (b - a))) else none
  | .slcSl sz lo hi mx, .msl l off len sz' :: bs => (boundsOf lo hi mx len bs).bind fun (a, b, m) => if sz = sz' ∧ m = none ∧ (a = 0 ∨ a < len) then some (.msl l (off + a * sz.getD 1) (b - a) sz) else none
  | .conv k, [.int _ n] => some (.int k (k.wrap n))
  | .bytesOf, [.str l] => if l.length ≤ limit then some (.sl .any (ofBytes l)) else none
  | .mkfn f n, vs => some (.fn f (vs.take n) (vs.drop n))
  | .boxR sz, [v] => if shaped sz v then some (.rptr v) else none
  | .isNil k neg, [x] => (isNilA k x).map fun v => if neg then notA v else v
  | .minmax mx, [.int k a, .int k' b] => if k = k' then some (.int k (if mx then (if a < b then b else a) else (if b < a then b else a))) else none
  | _, _ => none

/-- A map's block. -/
def mapAt (st : St) (l : Nat) : Option (List (AV × AV × Nat) × Nat) :=
  match st.heap[l]? with
  | some (.map es c) => some (es, c)
  | _ => none

def St.setBlk (st : St) (l : Nat) (b : Blk) : St := { st with heap := st.heap.set l b }

def getA (kk : KeyK) (zero : AV) (ok : Bool) (es : List (AV × AV × Nat)) (k : AV) : Option AV :=
  if (keyEqA kk k k).isSome = false then none else
  (findA kk k es).bind fun
    | some i => (es[i]?).map fun e => mapRes ok true e.2.1
    | none => some (mapRes ok false zero)

def evR (op : AOp) (args : List AV) (st : St) : Option AV :=
  match op, args with
  | .mapGet kk zero ok, [.map none, k] => getA kk zero ok [] k
  | .mapGet kk zero ok, [.map (some l), k] => (mapAt st l).bind fun m => getA kk zero ok m.1 k
  | .mapLen, [.map none] => some (.int .i64 0)
  | .mapLen, [.map (some l)] => (mapAt st l).map fun m => .int .i64 m.1.length
  | .load sz, [.ptr l off] => match st.heap[l]? with
    | some (.cells _ vs) => partA vs off sz
    | _ => none
  | .load sz, [.rptr v] => match sz, v with
    | some k, .agg cs => if cs.length = k then some (.agg cs) else none
    | some _, _ => none
    | none, .agg _ => none
    | none, v => some v
  | .strOf, [.sl _ es] => (toBytes es).map .str
  | .strOf, [.msl l off len none] => match st.heap[l]? with
    | some (.cells _ vs) => if off + len ≤ vs.length then (toBytes ((vs.drop off).take len)).map .str else none
    | _ => none
  | .slcArr n sz lo hi, .ptr l off :: bs => (boundsOf lo hi false n bs).bind fun (a, b, _) => match st.heap[l]? with
    | some (.cells _ vs) => if off + n * sz.getD 1 ≤ vs.length ∧ (a = 0 ∨ a < n) then some (.msl l (off + a * sz.getD 1) (b - a) sz) else none
    | _ => none
  | .slcArr n sz lo hi, .rptr (.agg cs) :: bs => (boundsOf lo hi false n bs).bind fun (a, b, _) =>
      if cs.length = n * sz.getD 1 then some (.sl .any (((chunk sz n cs).drop a).take (b - a))) else none
  | _, _ => none

/-- The elements that a builtin reads of its source. -/
def srcEs (sz : Option Nat) (st : St) : AV → Option (List AV)
  | .sl _ es => if allSz (sz.getD 1) es then some es else none
  | .str l => if sz = none then some (ofBytes l) else none
  | .msl l off len sz' => if sz = sz' then match st.heap[l]? with
    | some (.cells _ vs) => if off + len * sz.getD 1 ≤ vs.length then some (chunk sz len (vs.drop off)) else none
    | _ => none else none
  | _ => none

def setA (kk : KeyK) (m : List (AV × AV × Nat) × Nat) (k v : AV) : Option (List (AV × AV × Nat) × Nat) :=
  if (keyEqA kk k k).isSome = false then none else
  (findA kk k m.1).bind fun
    | some i => (m.1[i]?).map fun e => (m.1.set i (k, v, e.2.2), m.2)
    | none => some (m.1 ++ [(k, v, m.2)], m.2 + 1)

def entA (kk : KeyK) (zero : AV) (m : List (AV × AV × Nat) × Nat) (k : AV) : Option (AV × List (AV × AV × Nat) × Nat) :=
  if (keyEqA kk k k).isSome = false then none else
  (findA kk k m.1).bind fun
    | some i => (m.1[i]?).map fun e => (.tup [e.2.1, .int .i64 e.2.2], m.1.set i (k, e.2.1, e.2.2), m.2)
    | none => some (.tup [zero, .int .i64 m.2], m.1 ++ [(k, zero, m.2)], m.2 + 1)

def delA (kk : KeyK) (es : List (AV × AV × Nat)) (k : AV) : Option (List (AV × AV × Nat)) :=
  if (keyEqA kk k k).isSome = false then none else
  (findA kk k es).map fun
    | some i => es.eraseIdx i
    | none => es

def evW (op : AOp) (args : List AV) (st : St) : Option (AV × St) :=
  match op, args with
  | .mkmap, [] => some (.map (some st.heap.length), { st with heap := st.heap ++ [.map [] 0] })
  | .mkmap, [.int _ _] => some (.map (some st.heap.length), { st with heap := st.heap ++ [.map [] 0] })
  | .mapSet kk, [.map (some l), k, v] => (mapAt st l).bind fun m => (setA kk m k v).map fun m' => (.tup [], st.setBlk l (.map m'.1 m'.2))
  | .mapEnt kk zero, [.map (some l), k] => (mapAt st l).bind fun m => (entA kk zero m k).map fun r => (r.1, st.setBlk l (.map r.2.1 r.2.2))
  | .entSet, [.map (some l), .int .i64 b, v] => (mapAt st l).bind fun m => (bornA b m.1).bind fun i => (m.1[i]?).map fun e => (.tup [], st.setBlk l (.map (m.1.set i (e.1, v, e.2.2)) m.2))
  | .mapDel kk, [.map (some l), k] => (mapAt st l).bind fun m => (delA kk m.1 k).map fun es => (.tup [], st.setBlk l (.map es m.2))
  | .mapDel kk, [.map none, k] => if (keyEqA kk k k).isSome then some (.tup [], st) else none
  | .mapClr, [.map (some l)] => (mapAt st l).map fun m => (.tup [], st.setBlk l (.map [] m.2))
  | .mapClr, [.map none] => some (.tup [], st)
  | .store sz, [.ptr l off, v] => match st.heap[l]? with
    | some (.cells false vs) => if shaped sz v && off + v.cells.length ≤ vs.length then some (.tup [], { st with heap := st.heap.set l (.cells false (setRange vs off v.cells)) }) else none
    | _ => none
  | .alloc zero, [] => some (.ptr st.heap.length 0, { st with heap := st.heap ++ [.cells false zero] })
  | .box sz, [v] => if shaped sz v then some (.ptr st.heap.length 0, { st with heap := st.heap ++ [.cells false v.cells] }) else none
  | .mkslice sz zero, [.int _ n, .int _ c] => if 0 ≤ n ∧ n ≤ c ∧ c ≤ limit then
      some (.msl st.heap.length 0 n.toNat sz, { st with heap := st.heap ++ [.cells false (List.replicate n.toNat zero).flatten] }) else none
  | .appendM sz, [.sl .clip es, src] => match srcEs sz st src with
    | some new => if allSz (sz.getD 1) es = true ∧ allSz (sz.getD 1) new = true ∧ 0 < new.length ∧ (es ++ new).length ≤ limit then
        some (.msl st.heap.length 0 (es ++ new).length sz, { st with heap := st.heap ++ [.cells false (flat (normL (es ++ new)))] }) else none
    | none => none
  | .copy sz, [.msl l off len sz', src] => match srcEs sz st src, st.heap[l]? with
    | some es, some (.cells false vs) => if sz = sz' ∧ off + len * sz.getD 1 ≤ vs.length then
        some (.int .i64 (min es.length len : Nat), { st with heap := st.heap.set l (.cells false (setRange vs off (flat (es.take (min es.length len))))) }) else none
    | _, _ => none
  | _, _ => none

def evT (op : AOp) (args : List AV) (st : St) : Option (AV × St) :=
  match op, args with
  | .append sz, [.sl t es, src] => match srcEs sz st src with
    | some new => if allSz (sz.getD 1) es && decide (es.length + new.length ≤ limit) then
        match t with
        | .any => none
        | .clip => some (.sl (.own st.toks.length) (es ++ normL new), { st with toks := st.toks ++ [(es.length + new.length, sz.getD 1)] })
        | .own k => match st.toks[k]? with
          | some (n, s) => if n = es.length ∧ s = sz.getD 1 then some (.sl (.own k) (es ++ normL new), { st with toks := st.toks.set k (es.length + new.length, s) }) else none
          | none => none
      else none
    | none => none
  | _, _ => none

def evA (op : AOp) (args : List AV) (st : St) : Option (AV × St) :=
  match op.cls with
  | .pure => (evP op args).map fun v => (v, st)
  | .read => (evR op args st).map fun v => (v, st)
  | .write => evW op args st
  | .tok => evT op args st

/-! What an operation of the model is compiled to. -/

def constA1 : Value → Option AV
  | .bool b => some (.bool b)
  | .int k n => some (.int k n)
  | .string s => some (.str s.data.toList)
  | .pointer none => some .nilp
  | .slice none 0 0 => some (.sl .clip [])
  | .map none => some (.map none)
  | .nilFunc => some .nilfn
  | _ => none

def constA : Value → Option AV
  | .agg cs => (cs.toList.mapM constA1).map .agg
  | v => constA1 v

/-- A type of one cell, or of so many (a struct, an array). -/
def szOf (P : Program) (t : TypeId) : Option (Option Nat) :=
  match P.info? t, P.underlying t with
  | some i, some (.struct _) | some i, some (.array _ _) => if i.size = 0 then none else some (some i.size)
  | some i, some _ => if i.size = 1 then some none else none
  | _, _ => none

def elemOfA (P : Program) (t : TypeId) : Option TypeId :=
  match P.underlying t with
  | some (.slice e) => some e
  | _ => none

def zeroA (P : Program) (t : TypeId) : Option AV := ((P.info? t).bind (·.zero)).bind constA

def smallBytes (P : Program) (t : TypeId) : Bool :=
  match P.info? t with
  | some i => 0 < i.bytes && i.bytes ≤ 1024
  | none => false

def isU8 (P : Program) (e : TypeId) : Bool :=
  match P.underlying e with
  | some (.int .u8) => true
  | _ => false

inductive AOpd where
  | tmp (t : Nat)
  | const (v : AV)
  deriving Inhabited

def opdA : Operand → Option AOpd
  | .tmp t => some (.tmp t)
  | .const v => (constA v).map .const
  | .func f => some (.const (.fn (.func f) [] []))
  | .global _ => none

inductive Kind where
  | prim (op : AOp)
  | call (f : Nat)
  | callV
  deriving Inhabited

def fieldOf (P : Program) (t : TypeId) (i : Nat) : Option (Nat × Option Nat) :=
  match P.underlying t with
  | some (.struct fs) => (fs[i]?).bind fun f => (szOf P f.type).map fun s => (f.offset, s)
  | _ => none

def flatKind (P : Program) (t : TypeId) : Option Nat :=
  match P.underlying t with
  | some (.int _) => some 0
  | some .bool => some 1
  | some .string => some 2
  | _ => none

/-- Fields one behind the other, each told cell by cell. -/
def deepF (f : TypeId → Option (List Nat)) : Nat → List Field → Option (List Nat)
  | _, [] => some []
  | o, fd :: fs => if (fd.name != "_") = true ∧ fd.offset = o then (f fd.type).bind fun l => (deepF f (o + l.length) fs).map fun r => l ++ r else none

/-- A type of integers, bools and strings, structs and arrays of them: cell by cell. -/
def deepEq (P : Program) : Nat → TypeId → Option (List Nat)
  | 0, _ => none
  | n + 1, t => match P.underlying t with
    | some (.int _) => some [0]
    | some .bool => some [1]
    | some .string => some [2]
    | some (.struct fs) => if P.stoodInHeld t then none else (deepF (deepEq P n) 0 fs.toList).bind fun l => if szOf P t = some (some l.length) then some l else none
    | some (.array k e) => (deepEq P n e).bind fun l => if szOf P t = some (some (k * l.length)) ∧ (szOf P e).map (fun s => s.getD 1) = some l.length ∧ P.cellsOf e = l.length then some (List.replicate k l).flatten else none
    | _ => none

def flatEq (P : Program) (t : TypeId) : Option (List Nat) :=
  match P.underlying t with
  | some (.struct _) | some (.array _ _) => if !P.eqGuardType P.depth t then deepEq P 8 t else none
  | _ => none

def eqKindOf (P : Program) (t : TypeId) : EqK :=
  match P.underlying t with
  | some .bool => .bool
  | some (.pointer _) => .ptr
  | some (.struct _) | some (.array _ _) => match flatEq P t with | some ks => .flat ks | none => .none
  | _ => .none

/-- How a map's keys are compared. -/
def keyKind (P : Program) (t : TypeId) : Option KeyK :=
  match flatKind P t with
  | some k => some (.one k)
  | none => match P.underlying t with
    | some (.struct fs) => if fs.toList.all (fun f => (flatKind P f.type).isSome) then (flatEq P t).map .flat else none
    | _ => none

def mapOf (P : Program) (t : TypeId) : Option (KeyK × TypeId) :=
  match P.underlying t with
  | some (.map k e) => (keyKind P k).map fun kk => (kk, e)
  | _ => none

/-- Is it '==' or '!=' of a slice, a map or a function with the literal nil? -/
def isNilOp (P : Program) (op : BinOp) (t : TypeId) (y : Operand) : Option Nat :=
  if op = .eql ∨ op = .neq then match P.underlying t, y with
  | some (.slice _), .const (.slice none 0 0) => some 0
  | some (.map _ _), .const (.map none) => some 1
  | some (.func _ _ _), .const .nilFunc => some 2
  | _, _ => none
  else none

def compP (P : Program) (o : Op) : Option (Kind × List Operand) :=
  let pr (op : AOp) (xs : List Operand) : Option (Kind × List Operand) := some (.prim op, xs)
  match o with
  | .move x | .assign x => pr .id [x]
  | .nilCheck x => pr .nilc [x]
  | .pick c a b => pr .pick [c, a, b]
  | .binOp op t x y _ => match isNilOp P op t y with | some k => pr (.isNil k (op == .neq)) [x] | none => pr (.bin op (eqKindOf P t)) [x, y]
  | .unOp op _ x => pr (.un op) [x]
  | .build t parts => match P.underlying t, zeroA P t with
    | some (.struct fs), some (.agg z) => if fs.toList.all (fun f => (P.info? f.type).isSome) = false then none else (parts.toList.mapM fun p => (fs[p.1]?).bind fun f => (szOf P f.type).map fun s => (f.offset, s.getD 1)).bind fun ps => pr (.build z ps) (parts.toList.map (·.2))
    | some (.array _ e), some (.agg z) => (szOf P e).bind fun s => pr (.build z (parts.toList.map fun p => (p.1 * s.getD 1, s.getD 1))) (parts.toList.map (·.2))
    | _, _ => none
  | .buildSlice t n parts => (elemOfA P t).bind fun e => (szOf P e).bind fun s =>
      if parts.toList.map (·.1) = List.range n ∧ n * s.getD 1 ≤ 16777216 ∧ (P.info? e).any (·.zero.isSome) = true then pr (.buildSl s) (parts.toList.map (·.2)) else none
  | .extract x i => pr (.extract i) [x]
  | .field t x i => (fieldOf P t i).bind fun (off, s) => pr (.field off s) [x]
  | .fieldAddr t x i => (fieldOf P t i).bind fun (off, s) => pr (.fieldAddr off s) [x]
  | .indexAddr t x i => match P.underlying t with
    | some (.slice e) => (szOf P e).bind fun s => pr (.idxSl s) [x, i]
    | some (.array n e) => (szOf P e).bind fun s => pr (.idxArr n s) [x, i]
    | _ => none
  | .index t x i => match P.underlying t with
    | some (.array n e) => (szOf P e).bind fun s => pr (.idxArrV n s) [x, i]
    | some .string => pr .idxStr [x, i]
    | _ => none
  | .slice t x lo hi mx => match P.underlying t with
    | some .string => if mx.isNone then pr (.slcStr lo.isSome hi.isSome) (x :: (lo.toList ++ hi.toList)) else none
    | some (.slice e) => (szOf P e).bind fun s => pr (.slcSl s lo.isSome hi.isSome mx.isSome) (x :: (lo.toList ++ hi.toList ++ mx.toList))
    | some (.array n e) => if mx.isNone then (szOf P e).bind fun s => pr (.slcArr n s lo.isSome hi.isSome) (x :: (lo.toList ++ hi.toList)) else none
    | _ => none
  | .convert src dst x => match P.underlying src, P.underlying dst with
    | some (.int _), some (.int k) => pr (.conv k) [x]
    | some .string, some .string => pr .idStr [x]
    | some (.slice e), some .string => if isU8 P e then pr .strOf [x] else none
    | some .string, some (.slice e) => if isU8 P e && smallBytes P e then pr .bytesOf [x] else none
    | _, _ => none
  | .makeFunc f first captured => pr (.mkfn f first.size) (first.toList ++ captured.toList)
  | .load t a => (szOf P t).bind fun s => pr (.load s) [a]
  | .store t a v => (szOf P t).bind fun s => pr (.store s) [a, v]
  | .alloc t => (szOf P t).bind fun _ => (zeroA P t).bind fun z => pr (.alloc z.cells) []
  | .box t v => (szOf P t).bind fun s => pr (.box s) [v]
  | .makeSlice t l c => (elemOfA P t).bind fun e => (szOf P e).bind fun s => (zeroA P e).bind fun z => if smallBytes P e && z.cells.length == s.getD 1 then pr (.mkslice s z.cells) [l, c] else none
  | .makeMap t r => match P.underlying t with
    | some (.map _ _) => pr .mkmap r.toList
    | _ => none
  | .lookup t x i ok => (mapOf P t).bind fun (kk, e) => (zeroA P e).bind fun z => pr (.mapGet kk z ok) [x, i]
  | .mapUpdate t m k v | .insert t m k v => (mapOf P t).bind fun (kk, _) => pr (.mapSet kk) [m, k, v]
  | .mapEntry t m k => (mapOf P t).bind fun (kk, e) => (zeroA P e).bind fun z => pr (.mapEnt kk z) [m, k]
  | .entryStore _ m s v => pr .entSet [m, s, v]
  | .call { callee := .builtin .delete, args, argTypes } => match args.toList with
    | [m, k] => ((argTypes[0]?).bind (mapOf P)).bind fun (kk, _) => pr (.mapDel kk) [m, k]
    | _ => none
  | .call { callee := .builtin .clear, args, argTypes } => match args.toList, (argTypes[0]?).bind P.underlying with
    | [x], some (.map _ _) => pr .mapClr [x]
    | _, _ => none
  | .call { callee := .builtin .len, args, argTypes } => match args.toList, (argTypes[0]?).bind P.underlying with
    | [x], some (.map _ _) => pr .mapLen [x]
    | [x], some (.slice _) => pr .len [x]
    | [x], some .string => pr .lenStr [x]
    | _, _ => none
  | .call { callee := .builtin .append, args, argTypes } => match args.toList, argTypes[0]?, (argTypes[1]?).bind P.underlying with
    | [s, x], some t, some (.slice _) | [s, x], some t, some .string => (elemOfA P t).bind fun e => (szOf P e).bind fun sz => if smallBytes P e && (P.info? e).any (fun i => i.zero.any fun z => z.cells.size == sz.getD 1) then pr (.append sz) [s, x] else none
    | _, _, _ => none
  | .call { callee := .builtin .copy, args, argTypes } => match args.toList, argTypes[0]? with
    | [d, s], some t => (elemOfA P t).bind fun e => (szOf P e).bind fun sz => pr (.copy sz) [d, s]
    | _, _ => none
  | .call { callee := .builtin .min, args, .. } => match args.toList with
    | [a, b] => pr (.minmax false) [a, b]
    | _ => none
  | .call { callee := .builtin .max, args, .. } => match args.toList with
    | [a, b] => pr (.minmax true) [a, b]
    | _ => none
  | _ => none

def compOp (P : Program) (o : Op) : Option (Kind × List Operand) :=
  match o with
  | .call { callee := .value (.func f), args, .. } => some (.call f, args.toList)
  | .call { callee := .value (.tmp t), args, .. } => some (.callV, .tmp t :: args.toList)
  | o => match compP P o with
    | some (.prim op, xs) => some (.prim op, xs)
    | _ => none

structure AIns where
  kind : Kind
  args : List AOpd
  dst : Option Nat
  guard : Option (Nat × Bool)
  deriving Inhabited

inductive ACode where
  | skip
  | region (ins : List AIns) (deps : Option (List (List Nat)))
  | seq (a b : ACode)
  | cond (c : AOpd) (a b : ACode)
  | block (id : Nat) (b : ACode)
  | loop (b : ACode)
  | exit (id : Nat)
  | scope (b : ACode)
  | ret
  | label (l : Nat)
  | goto (l : Nat)
  | scopeJ (b : ACode) (l : Nat) (rest : ACode)
  deriving Inhabited

def dstOk (d : Option Tmp) (N : Nat) : Bool :=
  match d with
  | some d => decide (d < N)
  | none => true

/-- Appends to no elements, whose result the text then writes, and boxes that nobody writes: told by the places that they go to. -/
inductive Alt : Op → AOp → AOp → Prop
  | app (c : Call) (sz : Option Nat) : Alt (.call c) (.append sz) (.appendM sz)
  | box (t : TypeId) (x : Operand) (sz : Option Nat) : Alt (.box t x) (.box sz) (.boxR sz)

def markK (M : List Nat) (o : Op) (dst : Option Nat) (k : Kind) : Kind :=
  match o, k, dst with
  | .call _, .prim (.append sz), some d => if d ∈ M then .prim (.appendM sz) else .prim (.append sz)
  | .box _ _, .prim (.box sz), some d => if d ∈ M then .prim (.boxR sz) else .prim (.box sz)
  | _, k, _ => k

def compOper (P : Program) (N : Nat) (M : List Nat) (ops : Array Oper) (o : Oper) : Option AIns :=
  (compOp P o.op).bind fun (k', xs) => (xs.mapM opdA).bind fun as =>
  let k := markK M o.op o.dst k'
  if dstOk o.dst N then
    match o.guard with
    | none => some { kind := k, args := as, dst := o.dst, guard := none }
    | some (j, want) => ((ops[j]?).bind (·.dst)).map fun t => { kind := k, args := as, dst := o.dst, guard := some (t, want) }
  else none

end Go.Am

/- The abstract machine's operations are sound: reading and writing memory. -/
namespace Go.Am

theorem addr_add (b o n : Nat) : (⟨b, o, none⟩ : Addr).add n = ⟨b, o + n, none⟩ := by
  unfold Addr.add
  split <;> simp_all

theorem szOf_run {P : Program} {t : TypeId} {sz : Option Nat} (h : szOf P t = some sz) (w : World) :
    (isAgg t).run P w = .ok sz.isSome w ∧ (sizeOf t).run P w = .ok (sz.getD 1) w ∧ 0 < sz.getD 1 := by
  unfold szOf at h
  cases hi : P.info? t with
  | none => simp [hi] at h
  | some i =>
    cases hu : P.underlying t with
    | none => simp [hi, hu] at h
    | some d =>
      have hs : (sizeOf t).run P w = .ok i.size w := by simp [sizeOf, typeInfo, hi]
      have ha : (isAgg t).run P w = .ok (match d with | .struct _ | .array _ _ => true | _ => false) w := by
        simp only [isAgg, Sem.run_bind, run_underlying hu, Result.andThen]
        cases d <;> rfl
      rw [hs, ha]
      rw [hi, hu] at h
      cases d <;> simp only [] at h <;> split at h <;> first
        | (cases h; done)
        | (injection h with h; subst h; refine ⟨rfl, ?_, ?_⟩ <;> simp_all <;> omega)

/-- What stands in a row of cells. -/
def CellsAt (G : Gh) (w : World) (b o : Nat) (cs : List AV) : Prop :=
  ∀ (j : Nat) (c : AV), cs[j]? = some c → ∃ u, w.cell? ⟨b, o + j, none⟩ = some u ∧ VRel G w c u ∧ u.oneCell' = true

theorem BlkRel.cellsAt {G : Gh} {w : World} {B : Nat} {fz : Bool} {vs : List AV} (h : BlkRel G w B (.cells fz vs)) : CellsAt G w B 0 vs := by
  obtain ⟨c, elem, fr, h1, h2, h3, h4⟩ := h
  intro j a hj
  have hlt := (List.getElem?_eq_some_iff.1 hj).1
  have hc : j < c.size := by omega
  have := h3 j a c[j] hj (by simp [hc])
  exact ⟨c[j], by simp [World.cell?, h1, hc], this⟩

theorem CellsAt.drop {G : Gh} {w : World} {b o : Nat} {cs : List AV} (h : CellsAt G w b o cs) (n : Nat) : CellsAt G w b (o + n) (cs.drop n) := by
  intro j c hj
  rw [List.getElem?_drop] at hj
  have := h (n + j) c hj
  rwa [Nat.add_assoc]

theorem CellsAt.take {G : Gh} {w : World} {b o : Nat} {cs : List AV} (h : CellsAt G w b o cs) (n : Nat) : CellsAt G w b o (cs.take n) := by
  intro j c hj
  rw [List.getElem?_take] at hj
  split at hj
  · exact h j c hj
  · cases hj

/-- The values of a row of cells, as a list. -/
theorem CellsAt.list {G : Gh} {w : World} {b o : Nat} {cs : List AV} (h : CellsAt G w b o cs) :
    ∃ us : List Value, us.length = cs.length ∧ (∀ (j : Nat) (u : Value), us[j]? = some u → w.cell? ⟨b, o + j, none⟩ = some u) ∧
      (∀ (j : Nat) (c : AV) (u : Value), cs[j]? = some c → us[j]? = some u → VRel G w c u ∧ u.oneCell' = true) := by
  induction cs generalizing o with
  | nil => exact ⟨[], rfl, by simp, by simp⟩
  | cons c cs ih =>
    obtain ⟨us, h1, h2, h3⟩ := ih (h.drop 1)
    obtain ⟨u, hu, hv, h1'⟩ := h 0 c rfl
    refine ⟨u :: us, by simp [h1], fun j u' hj => ?_, fun j c' u' hc hj => ?_⟩
    · cases j with
      | zero => simp at hj; subst hj; exact hu
      | succ j => simp at hj; have := h2 j u' hj; rwa [show o + (j + 1) = o + 1 + j by omega]
    · cases j with
      | zero => simp at hj hc; subst hj; subst hc; exact ⟨hv, h1'⟩
      | succ j => simp at hj hc; exact h3 j c' u' hc hj

theorem VRel.agg_list {G : Gh} {w : World} {cs : List AV} {us : List Value} (hl : us.length = cs.length)
    (h : ∀ (j : Nat) (c : AV) (u : Value), cs[j]? = some c → us[j]? = some u → VRel G w c u ∧ u.oneCell' = true) : VRel G w (.agg cs) (.agg us.toArray) := by
  refine .agg cs _ (by simp [hl]) (fun i v hv => ?_) (fun i c v hc hv => (h i c v hc (by simpa using hv)).1)
  simp at hv
  have hlt := (List.getElem?_eq_some_iff.1 hv).1
  have : i < cs.length := by omega
  exact (h i cs[i] v (by simp [this]) hv).2

theorem run_loadCells_at (P : Program) {w : World} {b o : Nat} {us : List Value} (h : ∀ (j : Nat) (u : Value), us[j]? = some u → w.cell? ⟨b, o + j, none⟩ = some u) :
    (loadCells ⟨b, o, none⟩ us.length).run P w = .ok us.toArray w :=
  run_loadCells_list w _ us fun j v hj => by rw [addr_add]; exact h j v hj

theorem load_part {P : Program} {G : Gh} {w : World} {t : TypeId} {sz : Option Nat} {b o off : Nat} {cs : List AV} {v : AV} (hs : szOf P t = some sz) (h : CellsAt G w b o cs) (hp : partA cs off sz = some v) :
    ∃ y, (loadVar t ⟨b, o + off, none⟩).run P w = .ok y w ∧ VRel G w v y := by
  obtain ⟨ha, hz, _⟩ := szOf_run hs w
  cases sz with
  | none =>
    obtain ⟨u, h1, h2, _⟩ := h off v hp
    exact ⟨u, by simp [loadVar, ha, h1], h2⟩
  | some k =>
    simp only [partA] at hp
    split at hp
    · rename_i hle
      injection hp with hp
      subst hp
      obtain ⟨us, q1, q2, q3⟩ := ((h.drop off).take k).list
      have hk : us.length = k := by rw [q1]; simp; omega
      refine ⟨.agg us.toArray, ?_, VRel.agg_list q1 q3⟩
      have := run_loadCells_at P q2
      rw [hk] at this
      simp [loadVar, ha, hz, this]
    · cases hp

theorem rptr_cellsAt {G : Gh} {w : World} {v : AV} {y : Value} (h : VRel G w (.rptr v) y) : ∃ b o, y = .pointer (some ⟨b, o, none⟩) ∧ CellsAt G w b o v.cells := by
  cases h with
  | rptr v b o cv h1 h2 => exact ⟨b, o, rfl, fun j c hj => ⟨cv j, (h1 j c hj).2.1, h2 j c hj, (h1 j c hj).2.2⟩⟩

theorem load_sound {P : Program} {G : Gh} {w : World} {st : St} {t : TypeId} {sz : Option Nat} {x v : AV} {y : Value} (hs : szOf P t = some sz) (hI : Inv G w st) (hx : VRel G w x y) (he : evR (.load sz) [x] st = some v) :
    ∃ y', (Instr.loadAt t y).run P w = .ok y' w ∧ VRel G w v y' := by
  cases x with
  | ptr l off =>
    cases hx with
    | ptr _ _ B hB =>
      simp only [evR] at he
      cases hl : st.heap[l]? with
      | none => simp [hl] at he
      | some blk =>
        rw [hl] at he
        cases blk with
        | cells fz vs =>
          obtain ⟨B', q1, q2⟩ := hI.blk l _ hl
          rw [hB] at q1
          injection q1 with q1
          subst q1
          obtain ⟨y', r1, r2⟩ := load_part hs q2.cellsAt he
          exact ⟨y', by simpa [Instr.loadAt, Instr.sureAddr] using r1, r2⟩
        | _ => simp at he
  | rptr u =>
    obtain ⟨b, o, rfl, hc⟩ := rptr_cellsAt hx
    have hp : partA u.cells 0 sz = some v := by
      cases sz with
      | none =>
        cases u <;> simp [evR] at he <;> simp [partA, AV.cells, he]
      | some k =>
        cases u <;> simp [evR] at he
        obtain ⟨rfl, rfl⟩ := he
        simp [partA, AV.cells]
    obtain ⟨y', r1, r2⟩ := load_part hs hc hp
    exact ⟨y', by simpa [Instr.loadAt, Instr.sureAddr] using r1, r2⟩
  | _ => simp [evR] at he

theorem shaped_facts {sz : Option Nat} {v : AV} (h : shaped sz v = true) : v ≠ .any ∧ isTup v = false ∧ v.cells.length = sz.getD 1 := by
  cases sz with
  | none => cases v <;> simp [shaped] at h <;> exact ⟨nofun, rfl, rfl⟩
  | some k => cases v <;> simp [shaped] at h <;> exact ⟨nofun, rfl, by simpa [AV.cells] using h⟩

theorem run_storeVar_at (P : Program) {w : World} {t : TypeId} {b o : Nat} {y : Value} (hz : (sizeOf t).run P w = .ok y.cells.size w)
    (hc : ∀ j, j < y.cells.size → (w.cell? ⟨b, o + j, none⟩).isSome = true) (hf : ∀ j, j < y.cells.size → w.frozen? ⟨b, o + j, none⟩ = false) (h1 : ∀ v ∈ y.cells.toList, v.oneCell' = true) :
    (storeVar t ⟨b, o, none⟩ y).run P w = .ok () (w.setCells b o y.cells.toList) := by
  have := run_storeCells_cells (P := P) b o y.cells.toList 0 w (by simpa using hc) (by simpa using hf) h1
  simpa [storeVar, hz] using this


/-- A value that is stored or laid in new cells. -/
theorem VRel.cells_list {G : Gh} {w : World} {v : AV} {y : Value} (h : VRel G w v y) (hv : v ≠ .any) (ht : isTup v = false) :
    v.cells.length = y.cells.toList.length ∧ ∀ (i : Nat) (c : AV) (u : Value), v.cells[i]? = some c → y.cells.toList[i]? = some u → VRel G w c u ∧ u.oneCell' = true := by
  obtain ⟨h1, h2⟩ := h.cells hv ht
  exact ⟨by simpa using h1, fun i c u hc hu => h2 i c u hc (by simpa using hu)⟩

theorem mem_oneCell {cs : List AV} {us : List Value} {R : AV → Value → Prop} (hl : cs.length = us.length) (h : ∀ (i : Nat) (c : AV) (u : Value), cs[i]? = some c → us[i]? = some u → R c u ∧ u.oneCell' = true) : ∀ u ∈ us, u.oneCell' = true := by
  intro u hu
  obtain ⟨i, hi, rfl⟩ := List.mem_iff_getElem.1 hu
  exact (h i cs[i] us[i] (by simp [hl, hi]) (by simp [hi])).2

theorem store_sound {P : Program} {G : Gh} {w : World} {st st' : St} {t : TypeId} {sz : Option Nat} {x v r : AV} {y u : Value} (hs : szOf P t = some sz) (hI : Inv G w st) (hx : VRel G w x y) (hv : VRel G w v u) (he : evW (.store sz) [x, v] st = some (r, st')) :
    r = .tup [] ∧ ∃ w', (Instr.storeAt t y u).run P w = .ok () w' ∧ Inv G w' st' ∧ Ext G w G w' st.heap.length st.toks.length := by
  cases x with
  | ptr l off =>
    cases hx with
    | ptr _ _ B hB =>
      simp only [evW] at he
      cases hl : st.heap[l]? with
      | none => simp [hl] at he
      | some blk =>
        rw [hl] at he
        cases blk with
        | cells fz vs =>
          cases fz with
          | true => simp at he
          | false =>
            simp only [] at he
            split at he
            · rename_i hc
              simp only [Bool.and_eq_true, decide_eq_true_eq] at hc
              injection he with he
              injection he with e1 e2
              subst e1; subst e2
              obtain ⟨hv1, hv2, hv3⟩ := shaped_facts hc.1
              obtain ⟨q1, q2⟩ := hv.cells_list hv1 hv2
              obtain ⟨i1, e1⟩ := Inv.storeMuts (G := G) v.cells u.cells.toList w st vs off hI hl hB hc.2 q1 q2
              refine ⟨rfl, _, ?_, i1, e1⟩
              obtain ⟨B', p1, c, elem, fr, p2, p3, p4, p5, p6⟩ := hI.blk l _ hl
              rw [hB] at p1
              injection p1 with p1
              subst p1
              have hlen : u.cells.size = v.cells.length := by simpa using q1.symm
              have := run_storeVar_at P (t := t) (b := B) (o := off) (y := u) (w := w) (by rw [(szOf_run hs w).2.1, hlen, hv3])
                (fun j hj => by simp only [World.cell?, p2]; simp; omega) (fun j hj => p6 _ (by omega)) (mem_oneCell q1 q2)
              simpa [Instr.storeAt, Instr.sureAddr] using this
            · cases he
        | _ => simp at he
  | _ => simp [evW] at he

theorem cells_rel {G : Gh} {w : World} {cs : List AV} {us : Array Value} (hl : cs.length = us.size)
    (h : ∀ (i : Nat) (c : AV) (u : Value), cs[i]? = some c → us[i]? = some u → VRel G w c u ∧ u.oneCell' = true) {G' : Gh} {w' : World} (hv : ∀ v x, VRel G w v x → VRel G' w' v x) {B : Nat} {e : TypeId}
    (hb : w'.heap[B]? = some (.cells us e)) (hi : ∀ i, ¬ G'.imm B i) : BlkRel G' w' B (.cells false cs) :=
  ⟨us, e, (0, 0), hb, by omega, fun i v x hi hx => ⟨hv _ _ (h i v x hi hx).1, (h i v x hi hx).2⟩, hi, fun o ho => by simp [World.frozen?, hb]⟩

theorem newVar_sound {P : Program} {G : Gh} {w : World} {st : St} {t : TypeId} {v : AV} {u : Value} (hI : Inv G w st) (hv : VRel G w v u) (hv1 : v ≠ .any) (hv2 : isTup v = false) :
    ∃ w' G', (newVar t u).run P w = .ok ⟨w.heap.size, 0, none⟩ w' ∧ Inv G' w' { st with heap := st.heap ++ [.cells false v.cells] } ∧ Ext G w G' w' st.heap.length st.toks.length ∧
      VRel G' w' (.ptr st.heap.length 0) (.pointer (some ⟨w.heap.size, 0, none⟩)) := by
  obtain ⟨q1, q2⟩ := hv.cells hv1 hv2
  obtain ⟨i1, e1⟩ := hI.allocMut (.cells u.cells t) (.cells false v.cells) (fun G' w' h1 h2 h3 => cells_rel q1 q2 h1 h2 h3)
  exact ⟨_, _, by simp [newVar, newRow], i1, e1, .ptr _ _ _ (by simp [Gh.addRho])⟩

end Go.Am

/- The abstract machine's operations are sound: what only computes. -/
namespace Go.Am

def SOk (P : Program) (G : Gh) (w : World) (st : St) (s : Sem Value) (v : AV) (st' : St) : Prop :=
  ∃ y w' G', s.run P w = .ok y w' ∧ Inv G' w' st' ∧ Ext G w G' w' st.heap.length st.toks.length ∧ VRel G' w' v y

theorem SOk.same {P : Program} {G : Gh} {w : World} {st : St} {s : Sem Value} {v : AV} {y : Value} (hI : Inv G w st) (hr : s.run P w = .ok y w) (hv : VRel G w v y) : SOk P G w st s v st :=
  ⟨y, w, G, hr, hI, Ext.refl _ _ _ _, hv⟩

theorem intBin_sound {P : Program} {G : Gh} {w : World} {op : BinOp} {k : IntKind} {x y : Int} {v : AV} (t : TypeId) (h : intBin op k x y = some v) : ∃ u, (binOp op t (.int k x) (.int k y)).run P w = .ok u w ∧ VRel G w v u := by
  cases op <;> simp only [intBin] at h <;> (try (split at h)) <;> (try (cases h; done)) <;> injection h with h <;> subst h <;>
    simp only [binOp, ne_eq, not_true_eq_false, if_false] <;> simp_all [Op.intArith, Op.intDiv, Op.intBits, Op.intCmp] <;> constructor

theorem shiftBin_sound {P : Program} {G : Gh} {w : World} {op : BinOp} {k k' : IntKind} {x y : Int} {v : AV} (t : TypeId) (ho : op = .shl ∨ op = .shr) (h : shiftBin op k x y = some v) : ∃ u, (binOp op t (.int k x) (.int k' y)).run P w = .ok u w ∧ VRel G w v u := by
  rcases ho with rfl | rfl <;> simp only [shiftBin] at h <;> split at h <;> (try (cases h; done)) <;> injection h with h <;> subst h <;>
    exact ⟨_, by simp only [binOp, Op.shift]; rw [if_neg (by assumption)]; rfl, .int _ _⟩

theorem str_eta {l : List UInt8} {s : ByteArray} (h : s.data.toList = l) : s = ⟨l.toArray⟩ := by
  subst h
  cases s
  simp

theorem VRel.str' {G : Gh} {w : World} (l : List UInt8) : VRel G w (.str l) (.string ⟨l.toArray⟩) := by
  have := VRel.str (G := G) (w := w) ⟨l.toArray⟩
  simpa using this

theorem VRel.str_inv {G : Gh} {w : World} {l : List UInt8} {y : Value} (h : VRel G w (.str l) y) : y = .string ⟨l.toArray⟩ := by
  cases h with
  | str s => simp

theorem toList_mk (l : List UInt8) : (⟨l.toArray⟩ : ByteArray).toList = l := by
  have : ∀ (b : ByteArray), b.toList = b.data.toList := fun b => by
    exact ByteArray.toList_eq b
  simpa using this ⟨l.toArray⟩

theorem strBin_sound {P : Program} {G : Gh} {w : World} {op : BinOp} {x y : List UInt8} {v : AV} (t : TypeId) (h : strBin op x y = some v) : ∃ u, (binOp op t (.string ⟨x.toArray⟩) (.string ⟨y.toArray⟩)).run P w = .ok u w ∧ VRel G w v u := by
  have hx := toList_mk x
  have hy := toList_mk y
  have hs : ∀ l : List UInt8, (⟨l.toArray⟩ : ByteArray).size = l.length := fun l => by simp [ByteArray.size]
  cases op <;> simp only [strBin] at h <;> (try (split at h)) <;> (try (cases h; done)) <;> injection h with h <;> subst h
  · rename_i hn
    refine ⟨.string (⟨x.toArray⟩ ++ ⟨y.toArray⟩), ?_, ?_⟩
    · simp only [binOp, Op.stringOp, hs]
      rw [if_neg hn]
      rfl
    · have := VRel.str (G := G) (w := w) (⟨x.toArray⟩ ++ ⟨y.toArray⟩)
      simpa using this
  all_goals
    simp only [binOp, Op.stringOp, hx, hy]
    exact ⟨_, rfl, .bool _⟩


theorem run_equalIn_bool {P : Program} (w : World) {t : TypeId} (h : P.underlying t = some .bool) (d : Nat) (a b : Bool) : (Op.equalIn (d + 1) t (.bool a) (.bool b)).run P w = .ok (a == b) w := by
  simp [Op.equalIn, run_underlying h]

theorem run_equalIn_int {P : Program} (w : World) {t : TypeId} {k : IntKind} (h : P.underlying t = some (.int k)) (d : Nat) (k' : IntKind) (a b : Int) : (Op.equalIn (d + 1) t (.int k' a) (.int k' b)).run P w = .ok (a == b) w := by
  simp [Op.equalIn, run_underlying h]

theorem run_equalIn_string {P : Program} (w : World) {t : TypeId} (h : P.underlying t = some .string) (d : Nat) (a b : ByteArray) : (Op.equalIn (d + 1) t (.string a) (.string b)).run P w = .ok (a == b) w := by
  simp [Op.equalIn, run_underlying h]

theorem run_equalIn_ptr {P : Program} (w : World) {t e : TypeId} (h : P.underlying t = some (.pointer e)) (d : Nat) {a b : Option Addr} (hn : a = none ∨ b = none) : (Op.equalIn (d + 1) t (.pointer a) (.pointer b)).run P w = .ok (a.isNone && b.isNone) w := by
  cases a <;> cases b <;> simp [Op.equalIn, run_underlying h] at hn ⊢

theorem isNilAddr_rel {G : Gh} {w : World} {x : AV} {y : Value} {r : Bool} (h : isNilAddr x = some r) (hv : VRel G w x y) : ∃ a, y = .pointer a ∧ a.isNone = r := by
  cases hv <;> simp [isNilAddr] at h <;> subst h <;> exact ⟨_, rfl, rfl⟩

theorem beq_bytes (a b : List UInt8) : ((⟨a.toArray⟩ : ByteArray) == ⟨b.toArray⟩) = (a == b) := by
  show ((a.toArray == b.toArray)) = (a == b)
  simp

theorem eqCell_sound {P : Program} {G : Gh} {w : World} {x y : AV} {a b : Value} {r : Bool} {k : Nat} {t : TypeId} (d : Nat) (hk : flatKind P t = some k) (h : eqCell k x y = some r) (hx : VRel G w x a) (hy : VRel G w y b) :
    (Op.equalIn (d + 1) t a b).run P w = .ok r w := by
  unfold flatKind at hk
  unfold eqCell at h
  split at h
  · cases hx; cases hy
    split at h
    · rename_i k n k' n' hk
      subst hk
      injection h with h
      subst h
      split at hk <;> first | (injection hk with hk; cases hk; done) | skip
      · exact run_equalIn_int w (by assumption) d _ _ _
      · cases hk
    · cases h
  · cases hx; cases hy
    injection h with h
    subst h
    split at hk <;> first | (injection hk with hk; cases hk; done) | skip
    · exact run_equalIn_bool w (by assumption) d _ _
    · cases hk
  · rw [hx.str_inv, hy.str_inv]
    injection h with h
    subst h
    split at hk <;> first | (injection hk with hk; cases hk; done) | skip
    · rw [run_equalIn_string w (by assumption) d, beq_bytes]
    · cases hk
  · cases h


theorem flatKind_part {P : Program} {t : TypeId} {k : Nat} (h : flatKind P t = some k) (cs : Array Value) (o : Nat) (v : Value) (hv : cs[o]? = some v) (w : World) : (part t cs o).run P w = .ok v w := by
  have : (isAgg t).run P w = .ok false w := by
    unfold flatKind at h
    split at h <;> first | (cases h; done) | (simp only [isAgg, Sem.run_bind, run_underlying (by assumption : P.underlying t = some _), Result.andThen]; rfl)
  simp [part, this, hv]

/-- Cells of a row, told as trees. -/
def CellsOn (G : Gh) (w : World) (xs : Array Value) (o : Nat) (as : List AV) : Prop := ∀ (i : Nat) (c : AV), as[i]? = some c → ∃ v, xs[o + i]? = some v ∧ VRel G w c v

theorem eqCells_app : ∀ {k1 k2 : List Nat} {a1 a2 b1 b2 : List AV}, a1.length = k1.length → b1.length = k1.length → eqCells (k1 ++ k2) (a1 ++ a2) (b1 ++ b2) = (eqCells k1 a1 b1).bind fun r => if r then eqCells k2 a2 b2 else some false
  | [], k2, [], a2, [], b2, _, _ => rfl
  | k :: k1, k2, a :: a1, a2, b :: b1, b2, ha, hb => by
    simp only [List.cons_append, eqCells]
    cases eqCell k a b with
    | none => rfl
    | some r =>
      simp only [Option.bind_some]
      cases r with
      | false => rfl
      | true => simpa using eqCells_app (k1 := k1) (k2 := k2) (a2 := a2) (b2 := b2) (by simpa using ha) (by simpa using hb)
  | [], _, _ :: _, _, _, _, h, _ => by simp at h
  | [], _, [], _, _ :: _, _, _, h => by simp at h
  | _ :: _, _, [], _, _, _, h, _ => by simp at h
  | _ :: _, _, _ :: _, _, [], _, _, h => by simp at h

theorem CellsOn.extract {G : Gh} {w : World} {xs : Array Value} {o : Nat} {as : List AV} (h : CellsOn G w xs o as) : CellsOn G w (xs.extract o (o + as.length)) 0 as := by
  intro i c hc
  obtain ⟨v, h1, h2⟩ := h i c hc
  have hi := (List.getElem?_eq_some_iff.1 hc).1
  have hs := (Array.getElem?_eq_some_iff.1 h1).1
  refine ⟨v, ?_, h2⟩
  rw [Array.getElem?_extract]
  simp only [Nat.zero_add]
  rw [if_pos (by omega)]
  exact h1

theorem CellsOn.left {G : Gh} {w : World} {xs : Array Value} {o : Nat} {as bs : List AV} (h : CellsOn G w xs o (as ++ bs)) : CellsOn G w xs o as := fun i c hc => h i c (by rw [List.getElem?_append_left (List.getElem?_eq_some_iff.1 hc).1]; exact hc)
theorem CellsOn.right {G : Gh} {w : World} {xs : Array Value} {o : Nat} {as bs : List AV} (h : CellsOn G w xs o (as ++ bs)) : CellsOn G w xs (o + as.length) bs := fun i c hc => by
  have := h (as.length + i) c (by rw [List.getElem?_append_right (by omega), Nat.add_sub_cancel_left]; exact hc)
  rwa [← Nat.add_assoc] at this

/-- What '==' answers of a part of two rows. -/
def PartEq (P : Program) (G : Gh) (w : World) (d : Nat) (t : TypeId) (ks : List Nat) : Prop :=
  ∀ (xs ys : Array Value) (o : Nat) (as bs : List AV) (r : Bool), as.length = ks.length → bs.length = ks.length → eqCells ks as bs = some r → CellsOn G w xs o as → CellsOn G w ys o bs →
    ∃ a b, (part t xs o).run P w = .ok a w ∧ (part t ys o).run P w = .ok b w ∧ (Op.equalIn d t a b).run P w = .ok r w

theorem split_at {α : Type} {l : List α} {n m : Nat} (h : l.length = n + m) : ∃ a b, l = a ++ b ∧ a.length = n ∧ b.length = m := ⟨l.take n, l.drop n, (List.take_append_drop n l).symm, by simp; omega, by simp; omega⟩

theorem eqFields_run {P : Program} {G : Gh} {w : World} (d : Nat) (f : TypeId → Option (List Nat)) (hf : ∀ t ks, f t = some ks → PartEq P G w d t ks) (xs ys : Array Value) : ∀ (fs : List Field) (o : Nat) (ks : List Nat) (as bs : List AV) (r : Bool),
    deepF f o fs = some ks → as.length = ks.length → bs.length = ks.length → eqCells ks as bs = some r → CellsOn G w xs o as → CellsOn G w ys o bs → (Op.eqFields d xs ys fs).run P w = .ok r w
  | [], o, ks, as, bs, r, hk, ha, hb, he, _, _ => by
    simp [deepF] at hk
    subst hk
    match as, bs, ha, hb with
    | [], [], _, _ =>
      simp [eqCells] at he
      subst he
      rfl
  | fd :: fs, o, ks, as, bs, r, hk, ha, hb, he, hxa, hyb => by
    simp only [deepF] at hk
    split at hk
    · rename_i hc
      obtain ⟨hn, ho⟩ := hc
      simp only [Option.bind_eq_some_iff, Option.map_eq_some_iff] at hk
      obtain ⟨k1, h1, k2, h2, rfl⟩ := hk
      rw [List.length_append] at ha hb
      obtain ⟨a1, a2, rfl, ha1, ha2⟩ := split_at ha
      obtain ⟨b1, b2, rfl, hb1, hb2⟩ := split_at hb
      rw [eqCells_app ha1 hb1] at he
      cases hq : eqCells k1 a1 b1 with
      | none => simp [hq] at he
      | some q =>
        rw [hq] at he
        simp only [Option.bind_some] at he
        obtain ⟨va, vb, p1, p2, p3⟩ := hf fd.type k1 h1 xs ys o a1 b1 q ha1 hb1 hq hxa.left hyb.left
        have hname : fd.name ≠ "_" := by simpa using hn
        cases q with
        | false =>
          simp at he
          subst he
          simp [Op.eqFields, hname, ho, p1, p2, p3]
        | true =>
          simp only [if_true] at he
          have ih := eqFields_run d f hf xs ys fs (o + k1.length) k2 a2 b2 r h2 ha2 hb2 he (by rw [← ha1]; exact hxa.right) (by rw [← hb1]; exact hyb.right)
          simp [Op.eqFields, hname, ho, p1, p2, p3, ih]
    · cases hk

theorem eqItems_run {P : Program} {G : Gh} {w : World} (d : Nat) {e : TypeId} {l : List Nat} (he' : PartEq P G w d e l) (hc : P.cellsOf e = l.length) (xs ys : Array Value) : ∀ (n j : Nat) (as bs : List AV) (r : Bool),
    as.length = n * l.length → bs.length = n * l.length → eqCells (List.replicate n l).flatten as bs = some r → CellsOn G w xs (j * l.length) as → CellsOn G w ys (j * l.length) bs → (Op.eqItems d e (P.cellsOf e) xs ys (List.range' j n)).run P w = .ok r w
  | 0, j, as, bs, r, ha, hb, he, _, _ => by
    have h1 : as = [] := by simpa using ha
    have h2 : bs = [] := by simpa using hb
    subst h1; subst h2
    simp [eqCells] at he
    subst he
    rfl
  | n + 1, j, as, bs, r, ha, hb, he, hxa, hyb => by
    rw [Nat.succ_mul, Nat.add_comm] at ha hb
    obtain ⟨a1, a2, rfl, ha1, ha2⟩ := split_at ha
    obtain ⟨b1, b2, rfl, hb1, hb2⟩ := split_at hb
    rw [List.replicate_succ, List.flatten_cons, eqCells_app ha1 hb1] at he
    cases hq : eqCells l a1 b1 with
    | none => simp [hq] at he
    | some q =>
      rw [hq] at he
      simp only [Option.bind_some] at he
      obtain ⟨va, vb, p1, p2, p3⟩ := he' xs ys (j * l.length) a1 b1 q ha1 hb1 hq hxa.left hyb.left
      rw [List.range'_succ]
      cases q with
      | false =>
        simp at he
        subst he
        simp [Op.eqItems, hc, p1, p2, p3]
      | true =>
        simp only [if_true] at he
        have ih := eqItems_run d he' hc xs ys n (j + 1) a2 b2 r ha2 hb2 he (by rw [Nat.succ_mul, ← ha1]; rw [ha1]; have := hxa.right; rwa [ha1] at this) (by rw [Nat.succ_mul]; have := hyb.right; rwa [hb1] at this)
        rw [hc] at ih
        simp [Op.eqItems, hc, p1, p2, p3, ih]

theorem part_agg {P : Program} {w : World} {t : TypeId} {n : Nat} (h : szOf P t = some (some n)) (xs : Array Value) (o : Nat) : (part t xs o).run P w = .ok (.agg (xs.extract o (o + n))) w := by
  obtain ⟨h1, h2, _⟩ := szOf_run h w
  simp [part, h1, h2]

/-- '==' of two rows of a struct or an array. -/
theorem deepEq_agg {P : Program} {G : Gh} {w : World} : ∀ (n : Nat) (t : TypeId) (ks : List Nat) (d : Nat), deepEq P n t = some ks → n ≤ d → PartEq P G w d t ks ∧
    (((∃ fs, P.underlying t = some (.struct fs)) ∨ ∃ k e, P.underlying t = some (.array k e)) → ∀ (xs ys : Array Value) (as bs : List AV) (r : Bool), as.length = ks.length → bs.length = ks.length → eqCells ks as bs = some r → CellsOn G w xs 0 as → CellsOn G w ys 0 bs → (Op.equalIn d t (.agg xs) (.agg ys)).run P w = .ok r w)
  | 0, t, ks, d, h, _ => by simp [deepEq] at h
  | n + 1, t, ks, 0, h, hd => by omega
  | n + 1, t, ks, d + 1, h, hd => by
    have scal : ∀ k, flatKind P t = some k → ks = [k] → PartEq P G w (d + 1) t ks := by
      intro k hk he xs ys o as bs r ha hb hq hxa hyb
      subst he
      match as, bs, ha, hb with
      | [a], [b], _, _ =>
        obtain ⟨va, v1, v2⟩ := hxa 0 a rfl
        obtain ⟨vb, u1, u2⟩ := hyb 0 b rfl
        refine ⟨va, vb, flatKind_part hk xs o va (by simpa using v1) w, flatKind_part hk ys o vb (by simpa using u1) w, ?_⟩
        simp only [eqCells] at hq
        cases hc : eqCell k a b with
        | none => simp [hc] at hq
        | some q =>
          have := eqCell_sound d hk hc v2 u2
          rw [hc] at hq
          cases q <;> simp at hq <;> subst hq <;> exact this
    have agg : ∀ (hag : szOf P t = some (some ks.length)), (∀ (xs ys : Array Value) (as bs : List AV) (r : Bool), as.length = ks.length → bs.length = ks.length → eqCells ks as bs = some r → CellsOn G w xs 0 as → CellsOn G w ys 0 bs → (Op.equalIn (d + 1) t (.agg xs) (.agg ys)).run P w = .ok r w) → PartEq P G w (d + 1) t ks := by
      intro hsz hv xs ys o as bs r ha hb hq hxa hyb
      refine ⟨_, _, part_agg hsz xs o, part_agg hsz ys o, ?_⟩
      exact hv _ _ as bs r ha hb hq (by rw [← ha]; exact hxa.extract) (by rw [← hb]; exact hyb.extract)
    simp only [deepEq] at h
    split at h
    · rename_i hu
      injection h with h
      exact ⟨scal 0 (by simp [flatKind, hu]) h.symm, fun hh => by rcases hh with ⟨fs, hh⟩ | ⟨k, e, hh⟩ <;> rw [hu] at hh <;> cases hh⟩
    · rename_i hu
      injection h with h
      exact ⟨scal 1 (by simp [flatKind, hu]) h.symm, fun hh => by rcases hh with ⟨fs, hh⟩ | ⟨k, e, hh⟩ <;> rw [hu] at hh <;> cases hh⟩
    · rename_i hu
      injection h with h
      exact ⟨scal 2 (by simp [flatKind, hu]) h.symm, fun hh => by rcases hh with ⟨fs, hh⟩ | ⟨k, e, hh⟩ <;> rw [hu] at hh <;> cases hh⟩
    · rename_i fs hu
      split at h
      · cases h
      · rename_i hst
        simp only [Option.bind_eq_some_iff] at h
        obtain ⟨l, hl, h⟩ := h
        split at h
        · rename_i hsz
          injection h with h
          subst h
          have key : ∀ (xs ys : Array Value) (as bs : List AV) (r : Bool), as.length = l.length → bs.length = l.length → eqCells l as bs = some r → CellsOn G w xs 0 as → CellsOn G w ys 0 bs → (Op.equalIn (d + 1) t (.agg xs) (.agg ys)).run P w = .ok r w := by
            intro xs ys as bs r ha hb hq hxa hyb
            have hfo : P.fieldsOf t = fs := by simp [Program.fieldsOf, hu]
            rw [run_equalIn_struct (P := P) (w := w) d t xs ys (by rw [hfo]; exact hu) (by simpa using hst), hfo]
            exact eqFields_run d (deepEq P n) (fun t' ks' h' => (deepEq_agg n t' ks' d h' (by omega)).1) xs ys fs.toList 0 l as bs r hl ha hb hq hxa hyb
          exact ⟨agg hsz key, fun _ => key⟩
        · cases h
    · rename_i k e hu
      simp only [Option.bind_eq_some_iff] at h
      obtain ⟨l, hl, h⟩ := h
      split at h
      · rename_i hc
        obtain ⟨c1, c2, c3⟩ := hc
        injection h with h
        subst h
        have hlen : ((List.replicate k l).flatten).length = k * l.length := by simp
        have key : ∀ (xs ys : Array Value) (as bs : List AV) (r : Bool), as.length = ((List.replicate k l).flatten).length → bs.length = ((List.replicate k l).flatten).length → eqCells (List.replicate k l).flatten as bs = some r → CellsOn G w xs 0 as → CellsOn G w ys 0 bs → (Op.equalIn (d + 1) t (.agg xs) (.agg ys)).run P w = .ok r w := by
          intro xs ys as bs r ha hb hq hxa hyb
          obtain ⟨sz, hsz⟩ : ∃ sz, szOf P e = some sz := by
            cases hz : szOf P e with
            | none => simp [hz] at c2
            | some sz => exact ⟨sz, rfl⟩
          obtain ⟨i, hi⟩ : ∃ i, P.info? e = some i := by
            cases hi : P.info? e with
            | none => simp [szOf, hi] at hsz
            | some i => exact ⟨i, rfl⟩
          rw [run_equalIn_array (P := P) (w := w) d xs ys hu hi, List.range_eq_range']
          exact eqItems_run d ((deepEq_agg n e l d hl (by omega)).1) c3 xs ys k 0 as bs r (by rw [ha, hlen]) (by rw [hb, hlen]) hq (by simpa using hxa) (by simpa using hyb)
        exact ⟨agg (by rw [hlen]; exact c1) key, fun _ => key⟩
      · cases h
    · cases h

theorem run_equalIn_flat {P : Program} {G : Gh} {w : World} {t : TypeId} {ks : List Nat} (d : Nat) (hd : 8 ≤ d) (hf : flatEq P t = some ks) {as bs : List AV} {xs ys : Array Value} {r : Bool} (hl : as.length = ks.length ∧ bs.length = ks.length) (he : eqCells ks as bs = some r)
    (hx : VRel G w (.agg as) (.agg xs)) (hy : VRel G w (.agg bs) (.agg ys)) : (Op.equalIn d t (.agg xs) (.agg ys)).run P w = .ok r w := by
  cases hx with
  | agg _ _ a1 a2 a3 =>
    cases hy with
    | agg _ _ b1 b2 b3 =>
      have cx : CellsOn G w xs 0 as := fun i c hi => by
        have hl := (List.getElem?_eq_some_iff.1 hi).1
        have : i < xs.size := by omega
        exact ⟨xs[i], by simp [this], a3 i c xs[i] hi (by simp [this])⟩
      have cy : CellsOn G w ys 0 bs := fun i c hi => by
        have hl := (List.getElem?_eq_some_iff.1 hi).1
        have : i < ys.size := by omega
        exact ⟨ys[i], by simp [this], b3 i c ys[i] hi (by simp [this])⟩
      unfold flatEq at hf
      split at hf
      · rename_i fs hu
        split at hf
        · exact (deepEq_agg 8 t ks d hf hd).2 (.inl ⟨_, hu⟩) xs ys as bs r hl.1 hl.2 he cx cy
        · cases hf
      · rename_i k e hu
        split at hf
        · exact (deepEq_agg 8 t ks d hf hd).2 (.inr ⟨_, _, hu⟩) xs ys as bs r hl.1 hl.2 he cx cy
        · cases hf
      · cases hf

theorem eqKindOf_bool {P : Program} {t : TypeId} (h : eqKindOf P t = .bool) : P.underlying t = some .bool := by
  unfold eqKindOf at h
  split at h <;> first | assumption | (cases h; done) | (split at h <;> cases h)

theorem eqKindOf_ptr {P : Program} {t : TypeId} (h : eqKindOf P t = .ptr) : ∃ e, P.underlying t = some (.pointer e) := by
  unfold eqKindOf at h
  split at h <;> first | exact ⟨_, by assumption⟩ | (cases h; done) | (split at h <;> cases h)

theorem eqKindOf_flat {P : Program} {t : TypeId} {ks : List Nat} (h : eqKindOf P t = .flat ks) : flatEq P t = some ks := by
  unfold eqKindOf at h
  split at h <;> first | (cases h; done) | skip
  all_goals
    split at h
    · rename_i hf
      injection h with h
      subst h
      exact hf
    · cases h

theorem eqKind_sound {P : Program} {G : Gh} {w : World} {t : TypeId} {x y : AV} {a b : Value} {r : Bool} (h : eqKind (eqKindOf P t) x y = some r) (hx : VRel G w x a) (hy : VRel G w y b) : (Op.equal t a b).run P w = .ok r w ∧
    (∀ (op : BinOp), op = .eql ∨ op = .neq → binOp op t a b = (do pure (.bool ((op == .eql) == (← Op.equal t a b))))) := by
  cases hk : eqKindOf P t with
  | none => simp [hk, eqKind] at h
  | bool =>
    rw [hk] at h
    cases x <;> cases y <;> simp [eqKind] at h
    cases hx; cases hy
    subst h
    refine ⟨run_equalIn_bool w (eqKindOf_bool hk) 9999 _ _, fun op ho => ?_⟩
    rcases ho with rfl | rfl
    · simp [binOp]
    · simp only [binOp, bind_pure_comp]; congr 1; funext a; cases a <;> rfl
  | ptr =>
    rw [hk] at h
    obtain ⟨e, he⟩ := eqKindOf_ptr hk
    have h' : ((isNilAddr x).bind fun a => (isNilAddr y).bind fun b => if a || b then some (a && b) else none) = some r := h
    cases h1 : isNilAddr x with
    | none => simp [h1] at h'
    | some p =>
      cases h2 : isNilAddr y with
      | none => simp [h1, h2] at h'
      | some q =>
        simp only [h1, h2, Option.bind_some] at h'
        split at h'
        · rename_i hpq
          injection h' with h'
          subst h'
          obtain ⟨a', rfl, rfl⟩ := isNilAddr_rel h1 hx
          obtain ⟨b', rfl, rfl⟩ := isNilAddr_rel h2 hy
          refine ⟨run_equalIn_ptr w he 9999 (by simpa using hpq), fun op ho => ?_⟩
          rcases ho with rfl | rfl
          · simp [binOp]
          · simp only [binOp, bind_pure_comp]; congr 1; funext a; cases a <;> rfl
        · cases h'
  | flat ks =>
    rw [hk] at h
    cases x <;> cases y <;> simp [eqKind] at h
    obtain ⟨hl, he⟩ := h
    cases hx with
    | agg as xs a1 a2 a3 =>
      cases hy with
      | agg bs ys b1 b2 b3 =>
        refine ⟨run_equalIn_flat 10000 (by decide) (eqKindOf_flat hk) hl he (.agg _ _ a1 a2 a3) (.agg _ _ b1 b2 b3), fun op ho => ?_⟩
        rcases ho with rfl | rfl
        · simp [binOp]
        · simp only [binOp, bind_pure_comp]; congr 1; funext a; cases a <;> rfl

theorem binA_sound {P : Program} {G : Gh} {w : World} {op : BinOp} {t : TypeId} {x y v : AV} {a b : Value} (h : binA op (eqKindOf P t) x y = some v) (hx : VRel G w x a) (hy : VRel G w y b) :
    ∃ u, (binOp op t a b).run P w = .ok u w ∧ VRel G w v u := by
  unfold binA at h
  split at h
  · cases hx; cases hy; exact shiftBin_sound t (.inl rfl) h
  · cases hx; cases hy; exact shiftBin_sound t (.inr rfl) h
  · cases hx; cases hy
    split at h
    · rename_i hk
      subst hk
      exact intBin_sound t h
    · cases h
  · rw [hx.str_inv, hy.str_inv]; exact strBin_sound t h
  · cases hr : eqKind (eqKindOf P t) x y with
    | none => simp [hr] at h
    | some r =>
      simp [hr] at h
      subst h
      obtain ⟨q1, q2⟩ := eqKind_sound hr hx hy
      refine ⟨.bool r, ?_, .bool _⟩
      rw [q2 .eql (.inl rfl)]
      simp [q1]
  · cases hr : eqKind (eqKindOf P t) x y with
    | none => simp [hr] at h
    | some r =>
      simp [hr] at h
      subst h
      obtain ⟨q1, q2⟩ := eqKind_sound hr hx hy
      refine ⟨.bool (!r), ?_, .bool _⟩
      rw [q2 .neq (.inr rfl)]
      simp [q1]
      cases r <;> rfl
  · cases h

end Go.Am

/- The abstract machine's operations are sound: parts, addresses, slices. -/
namespace Go.Am

theorem unA_sound {P : Program} {G : Gh} {w : World} {op : UnOp} {x v : AV} {y : Value} (h : unA op x = some v) (hx : VRel G w x y) : ∃ u, (Op.unary op y).run P w = .ok u w ∧ VRel G w v u := by
  unfold unA at h
  split at h <;> first | (cases h; done) | skip
  all_goals
    injection h with h
    subst h
    cases hx
    exact ⟨_, rfl, by constructor⟩

/-! Parts of a struct's or an array's value. -/

theorem partA_sound {P : Program} {G : Gh} {w : World} {t : TypeId} {sz : Option Nat} {cs : List AV} {us : Array Value} {off : Nat} {v : AV} (hs : szOf P t = some sz) (hp : partA cs off sz = some v) (hx : VRel G w (.agg cs) (.agg us)) :
    ∃ u, (part t us off).run P w = .ok u w ∧ VRel G w v u := by
  obtain ⟨ha, hz, _⟩ := szOf_run hs w
  cases hx with
  | agg _ _ a1 a2 a3 =>
    cases sz with
    | none =>
      have hl := (List.getElem?_eq_some_iff.1 hp).1
      have hu : us[off]? = some us[off] := by simp [(by omega : off < us.size)]
      exact ⟨us[off], by simp only [part, Sem.run_bind, ha, Result.andThen]; simp [hu], a3 off v _ hp hu⟩
    | some k =>
      simp only [partA] at hp
      split at hp
      · injection hp with hp
        subst hp
        refine ⟨.agg (us.extract off (off + k)), by simp [part, ha, hz], .agg _ _ (by simp; omega) (fun i v hi => ?_) (fun i c v hc hi => ?_)⟩
        · rw [Array.getElem?_extract] at hi
          split at hi
          · exact a2 _ _ hi
          · cases hi
        · rw [Array.getElem?_extract] at hi
          rw [List.getElem?_take, List.getElem?_drop] at hc
          split at hi
          · split at hc
            · exact a3 _ _ _ hc hi
            · cases hc
          · cases hi
      · cases hp

theorem field_sound {P : Program} {G : Gh} {w : World} {t : TypeId} {i off : Nat} {sz : Option Nat} {x v : AV} {y : Value} (hf : fieldOf P t i = some (off, sz)) (h : evP (.field off sz) [x] = some v) (hx : VRel G w x y) :
    ∃ u, (Instr.field t y i).run P w = .ok u w ∧ VRel G w v u := by
  unfold fieldOf at hf
  split at hf
  · rename_i fs hu
    cases hfi : fs[i]? with
    | none => simp [hfi] at hf
    | some f =>
      cases hsz : szOf P f.type with
      | none => simp [hfi, hsz] at hf
      | some s =>
        simp [hfi, hsz] at hf
        obtain ⟨rfl, rfl⟩ := hf
        cases x <;> simp [evP] at h
        cases hx with
        | agg _ us a1 a2 a3 =>
          obtain ⟨u, q1, q2⟩ := partA_sound hsz h (.agg _ us a1 a2 a3)
          exact ⟨u, by simp [Instr.field, run_underlying hu, hfi, asAgg, q1], q2⟩
  · cases hf

theorem VRel.rptr_of {G : Gh} {w : World} {v : AV} {b o : Nat} (h1 : ∀ (j : Nat) (c : AV), v.cells[j]? = some c → G.imm b (o + j)) (h2 : CellsAt G w b o v.cells) : VRel G w (.rptr v) (.pointer (some ⟨b, o, none⟩)) := by
  have hc : ∀ j : Nat, ∃ u : Value, ∀ c, v.cells[j]? = some c → w.cell? ⟨b, o + j, none⟩ = some u ∧ VRel G w c u ∧ u.oneCell' = true := by
    intro j
    cases hj : v.cells[j]? with
    | none => exact ⟨undef, fun c hc => by cases hc⟩
    | some c =>
      obtain ⟨u, hu⟩ := h2 j c hj
      exact ⟨u, fun c' hc' => by injection hc' with e; subst e; exact hu⟩
  exact .rptr v b o (fun j => (hc j).choose) (fun j c hj => ⟨h1 j c hj, ((hc j).choose_spec c hj).1, ((hc j).choose_spec c hj).2.2⟩) (fun j c hj => ((hc j).choose_spec c hj).2.1)

theorem rptr_full {G : Gh} {w : World} {v : AV} {y : Value} (h : VRel G w (.rptr v) y) : ∃ b o, y = .pointer (some ⟨b, o, none⟩) ∧ CellsAt G w b o v.cells ∧ ∀ (j : Nat) (c : AV), v.cells[j]? = some c → G.imm b (o + j) := by
  cases h with
  | rptr v b o cv h1 h2 => exact ⟨b, o, rfl, fun j c hj => ⟨cv j, (h1 j c hj).2.1, h2 j c hj, (h1 j c hj).2.2⟩, fun j c hj => (h1 j c hj).1⟩

/-- A part of what a pointer to memory that never turns leads to. -/
theorem rptr_part {G : Gh} {w : World} {cs : List AV} {b o off : Nat} {sz : Option Nat} {v : AV} (h1 : CellsAt G w b o cs) (h2 : ∀ (j : Nat) (c : AV), cs[j]? = some c → G.imm b (o + j)) (hp : partA cs off sz = some v) :
    VRel G w (.rptr v) (.pointer (some ⟨b, o + off, none⟩)) := by
  cases sz with
  | none =>
    have hv : v.cells = [v] := by
      obtain ⟨u, _, q2, q3⟩ := h1 off v hp
      cases v <;> first | rfl | (cases q2; simp [Value.oneCell'] at q3)
    refine VRel.rptr_of (fun j c hj => ?_) (fun j c hj => ?_)
    · rw [hv] at hj
      cases j with
      | zero => simp at hj; subst hj; exact h2 off v hp
      | succ j => simp at hj
    · rw [hv] at hj
      cases j with
      | zero => simp at hj; subst hj; exact h1 off v hp
      | succ j => simp at hj
  | some k =>
    simp only [partA] at hp
    split at hp
    · injection hp with hp
      subst hp
      refine VRel.rptr_of (fun j c hj => ?_) ((h1.drop off).take k)
      simp only [AV.cells] at hj
      rw [List.getElem?_take, List.getElem?_drop] at hj
      split at hj
      · have := h2 _ _ hj; rwa [Nat.add_assoc]
      · cases hj
    · cases hp


theorem fieldAddr_sound {P : Program} {G : Gh} {w : World} {t : TypeId} {i off : Nat} {sz : Option Nat} {x v : AV} {y : Value} (hf : fieldOf P t i = some (off, sz)) (h : evP (.fieldAddr off sz) [x] = some v) (hx : VRel G w x y) :
    ∃ u, (Instr.fieldAt t y i).run P w = .ok u w ∧ VRel G w v u := by
  unfold fieldOf at hf
  split at hf
  · rename_i fs hu
    cases hfi : fs[i]? with
    | none => simp [hfi] at hf
    | some f =>
      cases hsz : szOf P f.type with
      | none => simp [hfi, hsz] at hf
      | some s =>
        simp [hfi, hsz] at hf
        obtain ⟨rfl, rfl⟩ := hf
        obtain ⟨_, hz, hpos⟩ := szOf_run hsz w
        have hplace : ∀ b o, (fieldPlace ⟨b, o, none⟩ f).run P w = .ok ⟨b, o + f.offset, none⟩ w := fun b o => by
          simp only [fieldPlace, Sem.run_bind, hz, Result.andThen]
          rw [if_neg (by omega)]
          simp [addr_add]
        cases x with
        | ptr l o =>
          simp [evP] at h
          subst h
          cases hx with
          | ptr _ _ B hB => exact ⟨_, by simp [Instr.fieldAt, run_underlying hu, hfi, Instr.sureAddr, hplace], .ptr _ _ _ hB⟩
        | rptr u =>
          cases u <;> simp [evP] at h
          obtain ⟨v', hp, rfl⟩ := h
          obtain ⟨b, o, rfl, h1, h2⟩ := rptr_full hx
          exact ⟨_, by simp [Instr.fieldAt, run_underlying hu, hfi, Instr.sureAddr, hplace], rptr_part h1 h2 hp⟩
        | _ => simp [evP] at h
  · cases hf

theorem flat_at {es : List AV} {sz : Nat} : ∀ {i : Nat} {e : AV}, (∀ e ∈ es, e.cells.length = sz) → es[i]? = some e → ∀ (j : Nat) (c : AV), e.cells[j]? = some c → (flat es)[i * sz + j]? = some c := by
  induction es with
  | nil => intro i e _ hi; simp at hi
  | cons a es ih =>
    intro i e hs hi j c hj
    have ha := hs a (by simp)
    cases i with
    | zero =>
      simp at hi
      subst hi
      have hl := (List.getElem?_eq_some_iff.1 hj).1
      simp only [flat, List.flatMap_cons, Nat.zero_mul, Nat.zero_add]
      rw [List.getElem?_append_left hl]
      exact hj
    | succ i =>
      simp at hi
      have := ih (fun e he => hs e (by simp [he])) hi j c hj
      simp only [flat, List.flatMap_cons]
      rw [List.getElem?_append_right (by rw [ha, Nat.succ_mul]; omega), ha, show (i + 1) * sz + j - sz = i * sz + j by rw [Nat.succ_mul]; omega]
      exact this

theorem flat_length {es : List AV} {sz : Nat} (h : ∀ e ∈ es, e.cells.length = sz) : (flat es).length = es.length * sz := by
  induction es with
  | nil => simp [flat]
  | cons a es ih =>
    have := ih (fun e he => h e (by simp [he]))
    have ha := h a (by simp)
    simp only [flat, List.flatMap_cons, List.length_append, List.length_cons] at this ⊢
    rw [this, ha, Nat.succ_mul]
    omega

theorem elemOfA_u {P : Program} {t e : TypeId} (h : elemOfA P t = some e) : P.underlying t = some (.slice e) := by
  unfold elemOfA at h
  split at h
  · injection h with h; subst h; assumption
  · cases h

theorem idxSl_sound {P : Program} {G : Gh} {w : World} {st : St} {t e : TypeId} {sz : Option Nat} {x i v : AV} {y iy : Value} (hu : P.underlying t = some (.slice e)) (hs : szOf P e = some sz) (hI : Inv G w st) (h : evP (.idxSl sz) [x, i] = some v) (hx : VRel G w x y) (hi : VRel G w i iy) :
    ∃ u, (Instr.indexAt t y iy).run P w = .ok u w ∧ VRel G w v u := by
  obtain ⟨_, hz, hpos⟩ := szOf_run hs w
  cases i with
  | int k n =>
    cases hi
    cases x with
    | sl tk es =>
      simp only [evP] at h
      split at h
      · rename_i hn
        cases he : es[n.toNat]? with
        | none => simp [he] at h
        | some a =>
          simp [he] at h
          obtain ⟨ha, rfl⟩ := h
          have hlt := (List.getElem?_eq_some_iff.1 he).1
          cases hx with
          | slnil => simp at he
          | slz => simp at he
          | sl _ _ b o cap sz' cv h1 h2 h3 h4 h5 =>
            have hsz : sz' = sz.getD 1 := by rw [← ha]; exact (h1 a (List.mem_of_getElem? he)).symm
            subst hsz
            refine ⟨.pointer (some ⟨b, o + n.toNat * sz.getD 1, none⟩), ?_, VRel.rptr_of (fun j c hj => ?_) (fun j c hj => ?_)⟩
            · simp only [Instr.indexAt, asIntOf, Sem.run_bind, Sem.run_pure, Result.andThen, run_underlying hu]
              rw [if_pos ⟨hn, by omega⟩]
              simp [hz, addr_add]
            · have := (h3 _ c (flat_at h1 he j c hj)).1; rwa [← Nat.add_assoc] at this
            · have h3' := h3 _ c (flat_at h1 he j c hj)
              have h4' := h4 _ c (flat_at h1 he j c hj)
              rw [← Nat.add_assoc] at h3'
              exact ⟨_, h3'.2.1, h4', h3'.2.2⟩
      · cases h
    | msl l off len sz' =>
      simp only [evP] at h
      split at h
      · rename_i hc
        injection h with h
        subst h
        obtain ⟨rfl, hn, hlt⟩ := hc
        cases hx with
        | msl _ _ _ _ B cap z h1 h2 h3 h4 =>
          refine ⟨.pointer (some ⟨B, off + n.toNat * sz.getD 1, none⟩), ?_, .ptr _ _ _ h1⟩
          simp only [Instr.indexAt, asIntOf, Sem.run_bind, Sem.run_pure, Result.andThen, run_underlying hu]
          rw [if_pos ⟨hn, hlt⟩]
          simp [hz, addr_add]
      · cases h
    | _ => simp [evP] at h
  | _ => cases x <;> simp [evP] at h

theorem idxArr_sound {P : Program} {G : Gh} {w : World} {st : St} {t e : TypeId} {m : Nat} {sz : Option Nat} {x i v : AV} {y iy : Value} (hu : P.underlying t = some (.array m e)) (hs : szOf P e = some sz) (hI : Inv G w st) (h : evP (.idxArr m sz) [x, i] = some v) (hx : VRel G w x y) (hi : VRel G w i iy) :
    ∃ u, (Instr.indexAt t y iy).run P w = .ok u w ∧ VRel G w v u := by
  obtain ⟨_, hz, hpos⟩ := szOf_run hs w
  have hrun : ∀ b o k (n : Int), 0 ≤ n → n < m → (Instr.indexAt t (.pointer (some ⟨b, o, none⟩)) (.int k n)).run P w = .ok (.pointer (some ⟨b, o + n.toNat * sz.getD 1, none⟩)) w := by
    intro b o k n h0 hm
    simp only [Instr.indexAt, asIntOf, Sem.run_bind, Sem.run_pure, Result.andThen, run_underlying hu, Instr.sureAddr]
    rw [if_pos ⟨h0, hm⟩]
    simp [hz, addr_add]
  cases i with
  | int k n =>
    cases hi
    cases x with
    | ptr l off =>
      simp only [evP] at h
      split at h
      · rename_i hc
        injection h with h
        subst h
        cases hx with
        | ptr _ _ B hB => exact ⟨_, hrun _ _ _ _ hc.1 hc.2, .ptr _ _ _ hB⟩
      · cases h
    | rptr u =>
      cases u <;> simp [evP] at h
      obtain ⟨hc, v', hp, rfl⟩ := h
      obtain ⟨b, o, rfl, h1, h2⟩ := rptr_full hx
      exact ⟨_, hrun _ _ _ _ hc.1 hc.2, rptr_part h1 h2 hp⟩
    | _ => simp [evP] at h
  | _ => cases x <;> simp [evP] at h <;> (rename_i u _; cases u <;> simp [evP] at h)

theorem idxArrV_sound {P : Program} {G : Gh} {w : World} {t e : TypeId} {m : Nat} {sz : Option Nat} {x i v : AV} {y iy : Value} (hu : P.underlying t = some (.array m e)) (hs : szOf P e = some sz) (h : evP (.idxArrV m sz) [x, i] = some v) (hx : VRel G w x y) (hi : VRel G w i iy) :
    ∃ u, (Instr.index t y iy).run P w = .ok u w ∧ VRel G w v u := by
  obtain ⟨_, hz, hpos⟩ := szOf_run hs w
  cases x <;> cases i <;> simp [evP] at h
  cases hi
  cases hx with
  | agg _ us a1 a2 a3 =>
    obtain ⟨hc, hp⟩ := h
    obtain ⟨u, q1, q2⟩ := partA_sound hs hp (.agg _ us a1 a2 a3)
    refine ⟨u, ?_, q2⟩
    simp only [Instr.index, asIntOf, Sem.run_bind, Sem.run_pure, Result.andThen, run_underlying hu]
    rw [if_pos hc]
    simp [hz, q1]

theorem idxStr_sound {P : Program} {G : Gh} {w : World} {t : TypeId} {x i v : AV} {y iy : Value} (hu : P.underlying t = some .string) (h : evP .idxStr [x, i] = some v) (hx : VRel G w x y) (hi : VRel G w i iy) :
    ∃ u, (Instr.index t y iy).run P w = .ok u w ∧ VRel G w v u := by
  cases x <;> cases i <;> simp [evP] at h
  rename_i l k n
  cases hi
  rw [hx.str_inv]
  obtain ⟨h0, b, hb, rfl⟩ := h
  refine ⟨.int .u8 b.toNat, ?_, .int _ _⟩
  have : (⟨l.toArray⟩ : ByteArray)[n.toNat]? = some b := by
    have hl := (List.getElem?_eq_some_iff.1 hb).1
    have hs : n.toNat < (⟨l.toArray⟩ : ByteArray).size := by simpa [ByteArray.size] using hl
    rw [getElem?_pos (⟨l.toArray⟩ : ByteArray) n.toNat hs]
    show some (l.toArray[n.toNat]'_) = _
    simp [(List.getElem?_eq_some_iff.1 hb).2]
  simp only [Instr.index, asIntOf, Sem.run_bind, Sem.run_pure, Result.andThen, run_underlying hu]
  rw [if_pos h0, this]
  rfl

end Go.Am

/- The abstract machine's operations are sound: lengths, slice expressions, composites, conversions. -/
namespace Go.Am

theorem VRel.sl_len {G : Gh} {w : World} {t : Tok} {es : List AV} {y : Value} (h : VRel G w (.sl t es) y) : ∃ a cap, y = .slice a es.length cap ∧ es.length ≤ cap := by
  cases h with
  | slnil => exact ⟨none, 0, rfl, Nat.le_refl _⟩
  | slz _ a => exact ⟨some a, 0, rfl, Nat.le_refl _⟩
  | sl _ _ b o cap sz cv _ h2 => exact ⟨_, cap, rfl, h2⟩

theorem len_sound {P : Program} {G : Gh} {w : World} {t ty e : TypeId} {x v : AV} {y : Value} (hu : P.underlying t = some (.slice e)) (h : evP .len [x] = some v) (hx : VRel G w x y) :
    ∃ u, (Builtin.len_ #[t] ty #[y]).run P w = .ok u w ∧ VRel G w v u := by
  cases x <;> simp [evP] at h
  · subst h
    obtain ⟨a, cap, rfl, _⟩ := hx.sl_len
    exact ⟨_, by simp [Builtin.len_, run_underlying hu]; rfl, .int _ _⟩
  · subst h
    cases hx
    exact ⟨_, by simp [Builtin.len_, run_underlying hu]; rfl, .int _ _⟩

theorem lenStr_sound {P : Program} {G : Gh} {w : World} {t ty : TypeId} {x v : AV} {y : Value} (hu : P.underlying t = some .string) (h : evP .lenStr [x] = some v) (hx : VRel G w x y) :
    ∃ u, (Builtin.len_ #[t] ty #[y]).run P w = .ok u w ∧ VRel G w v u := by
  cases x <;> simp [evP] at h
  rename_i l
  subst h
  rw [hx.str_inv]
  refine ⟨.int .i64 l.length, ?_, .int _ _⟩
  simp [Builtin.len_, run_underlying hu, goInt]
  simp [ByteArray.size]

theorem sliceBound_run {P : Program} {w : World} {k : IntKind} {i : Int} {y : Nat} (c : BoundsCode) (h : 0 ≤ i ∧ i ≤ y) : (Instr.sliceBound (.int k i) y c).run P w = .ok i.toNat w := by
  simp only [Instr.sliceBound, asIntOf, Sem.run_bind, Sem.run_pure, Result.andThen]
  rw [if_pos h]
  rfl

def OptRel (G : Gh) (w : World) : Option AV → Option Value → Prop
  | none, none => True
  | some a, some b => VRel G w a b
  | _, _ => False

def ListRel (G : Gh) (w : World) (xs : List AV) (ys : List Value) : Prop :=
  xs.length = ys.length ∧ ∀ (i : Nat) (c : AV) (v : Value), xs[i]? = some c → ys[i]? = some v → VRel G w c v

theorem ListRel.cons_inv {G : Gh} {w : World} {xs : List AV} {y : Value} {ys : List Value} (h : ListRel G w xs (y :: ys)) : ∃ x xs', xs = x :: xs' ∧ VRel G w x y ∧ ListRel G w xs' ys := by
  obtain ⟨h1, h2⟩ := h
  cases xs with
  | nil => simp at h1
  | cons x xs => exact ⟨x, xs, rfl, h2 0 x y rfl rfl, by simpa using h1, fun i c v hc hv => h2 (i + 1) c v (by simpa using hc) (by simpa using hv)⟩

theorem ListRel.nil_inv {G : Gh} {w : World} {xs : List AV} (h : ListRel G w xs []) : xs = [] := by
  obtain ⟨h1, h2⟩ := h
  cases xs with
  | nil => rfl
  | cons x xs => simp at h1

theorem args3_rel {G : Gh} {w : World} {lo hi mx : Option Value} {bs : List AV} {a b c : Option AV} (hr : ListRel G w bs (lo.toList ++ hi.toList ++ mx.toList)) (h : args3 lo.isSome hi.isSome mx.isSome bs = some (a, b, c)) :
    OptRel G w a lo ∧ OptRel G w b hi ∧ OptRel G w c mx := by
  cases lo <;> cases hi <;> cases mx <;> simp only [Option.toList_none, Option.toList_some, List.nil_append, List.cons_append, List.append_nil, Option.isSome_none, Option.isSome_some] at hr h
  · rw [hr.nil_inv] at h; simp [args3] at h; obtain ⟨rfl, rfl, rfl⟩ := h; exact ⟨trivial, trivial, trivial⟩
  all_goals
    obtain ⟨x, xs, rfl, hx, hr⟩ := hr.cons_inv
    first
      | (rw [hr.nil_inv] at h; simp [args3] at h; obtain ⟨rfl, rfl, rfl⟩ := h; exact ⟨by first | trivial | exact hx, by first | trivial | exact hx, by first | trivial | exact hx⟩)
      | (obtain ⟨x2, xs2, rfl, hx2, hr⟩ := hr.cons_inv
         first
          | (rw [hr.nil_inv] at h; simp [args3] at h; obtain ⟨rfl, rfl, rfl⟩ := h; exact ⟨by first | trivial | exact hx | exact hx2, by first | trivial | exact hx2 | exact hx, by first | trivial | exact hx2 | exact hx⟩)
          | (obtain ⟨x3, xs3, rfl, hx3, hr⟩ := hr.cons_inv
             rw [hr.nil_inv] at h; simp [args3] at h; obtain ⟨rfl, rfl, rfl⟩ := h; exact ⟨hx, hx2, hx3⟩))

theorem bnd1_run {P : Program} {G : Gh} {w : World} {x : Option AV} {y : Value} {d top n : Nat} {top' : Nat} (ht : top ≤ top') (c : BoundsCode) (h : bnd1 x d top = some n) (hr : OptRel G w x (some y)) : (Instr.sliceBound y top' c).run P w = .ok n w ∧ n ≤ top := by
  unfold bnd1 at h
  cases x with
  | none => exact hr.elim
  | some x =>
    cases x with
    | int k i =>
      simp only [] at h
      split at h
      · rename_i hc
        injection h with h
        subst h
        cases hr
        exact ⟨sliceBound_run c ⟨hc.1, by omega⟩, by omega⟩
      · cases h
    | _ => simp at h

theorem bounds_run {P : Program} {w : World} {G : Gh} {lo hi mx : Option Value} {isSlice : Bool} {len cap : Nat} {x1 x2 x3 : Option AV} {a b : Nat} {m : Option Nat} (hcap : len ≤ cap) (h : bounds x1 x2 x3 len = some (a, b, m))
    (h1 : OptRel G w x1 lo) (h2 : OptRel G w x2 hi) (h3 : OptRel G w x3 mx) :
    (Instr.sliceBounds isSlice len cap lo hi mx).run P w = .ok (a, b, m.getD cap) w ∧ a ≤ b ∧ b ≤ len ∧ (∀ m', m = some m' → b ≤ m' ∧ m' ≤ len) := by
  have hlo : ∀ (top l : Nat), bnd1 x1 0 top = some l → (match lo with | some v => Instr.sliceBound v top (if mx.isSome then .slice3C else .sliceB) | none => (pure 0 : Sem Nat)).run P w = .ok l w ∧ l ≤ top := by
    intro top l hb
    cases lo with
    | none =>
      cases x1 with
      | none => simp [bnd1] at hb; subst hb; exact ⟨rfl, Nat.zero_le _⟩
      | some _ => exact h1.elim
    | some v => exact bnd1_run (Nat.le_refl _) _ hb h1
  cases x3 with
  | none =>
    cases mx with
    | some _ => exact h3.elim
    | none =>
      simp only [bounds] at h
      cases hb : bnd1 x2 len len with
      | none => simp [hb] at h
      | some hh =>
        cases hl : bnd1 x1 0 hh with
        | none => simp [hb, hl] at h
        | some l =>
          simp [hb, hl] at h
          obtain ⟨rfl, rfl, rfl⟩ := h
          obtain ⟨q1, q2⟩ := hlo _ _ hl
          cases hi with
          | none =>
            cases x2 with
            | some _ => exact h2.elim
            | none =>
              simp [bnd1] at hb
              subst hb
              refine ⟨?_, q2, Nat.le_refl _, fun m' e => by cases e⟩
              cases lo <;> simp_all [Instr.sliceBounds]
          | some v =>
            obtain ⟨p1, p2⟩ := bnd1_run (P := P) hcap (if isSlice then .sliceAcap else .sliceAlen) hb h2
            refine ⟨?_, q2, p2, fun m' e => by cases e⟩
            cases lo <;> simp_all [Instr.sliceBounds]
  | some xm =>
    cases mx with
    | none => exact h3.elim
    | some vm =>
      cases x2 with
      | none => simp [bounds] at h
      | some xh =>
        cases hi with
        | none => exact h2.elim
        | some vh =>
          simp only [bounds] at h
          cases hm : bnd1 (some xm) 0 len with
          | none => simp [hm] at h
          | some mm =>
            cases hb : bnd1 (some xh) 0 mm with
            | none => simp [hm, hb] at h
            | some hh =>
              cases hl : bnd1 x1 0 hh with
              | none => simp [hm, hb, hl] at h
              | some l =>
                simp [hm, hb, hl] at h
                obtain ⟨rfl, rfl, rfl⟩ := h
                obtain ⟨q1, q2⟩ := hlo _ _ hl
                obtain ⟨p1, p2⟩ := bnd1_run (P := P) hcap (if isSlice then .slice3Acap else .slice3Alen) hm h3
                obtain ⟨r1, r2⟩ := bnd1_run (P := P) (Nat.le_refl _) .slice3B hb h2
                refine ⟨?_, q2, by omega, fun m' e => by injection e with e; subst e; exact ⟨r2, p2⟩⟩
                cases lo <;> simp_all [Instr.sliceBounds]

theorem boundsOf_run {P : Program} {w : World} {G : Gh} {lo hi mx : Option Value} (isSlice : Bool) {len cap : Nat} {bs : List AV} {a b : Nat} {m : Option Nat} (hcap : len ≤ cap) (h : boundsOf lo.isSome hi.isSome mx.isSome len bs = some (a, b, m))
    (hr : ListRel G w bs (lo.toList ++ hi.toList ++ mx.toList)) :
    (Instr.sliceBounds isSlice len cap lo hi mx).run P w = .ok (a, b, m.getD cap) w ∧ a ≤ b ∧ b ≤ len ∧ (∀ m', m = some m' → b ≤ m' ∧ m' ≤ len) := by
  unfold boundsOf at h
  cases h3 : args3 lo.isSome hi.isSome mx.isSome bs with
  | none => simp [h3] at h
  | some x =>
    obtain ⟨x1, x2, x3⟩ := x
    simp [h3] at h
    obtain ⟨q1, q2, q3⟩ := args3_rel hr h3
    exact bounds_run hcap h q1 q2 q3


theorem extract_bytes (l : List UInt8) (a b : Nat) (h : b ≤ l.length) : (⟨l.toArray⟩ : ByteArray).extract a b = ⟨((l.drop a).take (b - a)).toArray⟩ := by
  apply ByteArray.ext
  simp [ByteArray.data_extract]

theorem slcStr_sound {P : Program} {G : Gh} {w : World} {t : TypeId} {lo hi : Option Value} {x v : AV} {bs : List AV} {y : Value} (hu : P.underlying t = some .string) (h : evP (.slcStr lo.isSome hi.isSome) (x :: bs) = some v) (hx : VRel G w x y)
    (hr : ListRel G w bs (lo.toList ++ hi.toList)) : ∃ u, (Instr.sliceAt t y lo hi none).run P w = .ok u w ∧ VRel G w v u := by
  cases x <;> simp [evP] at h
  rename_i l
  obtain ⟨a, b, ⟨m, hb⟩, rfl⟩ := h
  have hs : (⟨l.toArray⟩ : ByteArray).size = l.length := by simp [ByteArray.size]
  obtain ⟨q1, q2, q3, q4⟩ := boundsOf_run (P := P) (w := w) (G := G) (lo := lo) (hi := hi) (mx := none) false (Nat.le_refl l.length) (by simpa using hb) (by simpa using hr)
  rw [hx.str_inv]
  refine ⟨.string ⟨((l.drop a).take (b - a)).toArray⟩, ?_, VRel.str' _⟩
  simp only [Instr.sliceAt, Instr.slice, Sem.run_bind, run_underlying hu, Result.andThen, hs, q1]
  simp [extract_bytes l a b q3, q1, hs]

theorem flat_drop {es : List AV} {sz : Nat} (h : ∀ e ∈ es, e.cells.length = sz) (a : Nat) : flat (es.drop a) = (flat es).drop (a * sz) := by
  induction a generalizing es with
  | zero => simp
  | succ a ih =>
    cases es with
    | nil => simp [flat]
    | cons e es =>
      have he := h e (by simp)
      rw [List.drop_succ_cons, ih (fun x hx => h x (by simp [hx]))]
      simp only [flat, List.flatMap_cons]
      have h0 : List.drop ((a + 1) * sz) e.cells = [] := List.drop_eq_nil_of_le (by rw [he, Nat.succ_mul]; omega)
      rw [List.drop_append, h0, he, show (a + 1) * sz - sz = a * sz by rw [Nat.succ_mul]; omega]
      rfl

theorem flat_take {es : List AV} {sz : Nat} (h : ∀ e ∈ es, e.cells.length = sz) (a : Nat) : flat (es.take a) = (flat es).take (a * sz) := by
  induction a generalizing es with
  | zero => simp [flat]
  | succ a ih =>
    cases es with
    | nil => simp [flat]
    | cons e es =>
      have he := h e (by simp)
      have := ih (es := es) (fun x hx => h x (by simp [hx]))
      simp only [flat] at this
      simp only [List.take_succ_cons, flat, List.flatMap_cons]
      have h0 : List.take ((a + 1) * sz) e.cells = e.cells := List.take_of_length_le (by rw [he, Nat.succ_mul]; omega)
      rw [this, List.take_append, h0, he, show (a + 1) * sz - sz = a * sz by rw [Nat.succ_mul]; omega]

theorem slTok_nil {G : Gh} (t : Tok) (b len : Nat) (m : Option Nat) : TokNil G (slTok t b len m) := by
  unfold slTok
  cases m <;> simp only [] <;> split <;> trivial

theorem slTok_ok {G : Gh} {w : World} {t : Tok} {a b len cap bb o sz : Nat} {m : Option Nat} (h : t = .clip → cap = len) (o' : Nat) : TokOk G w (slTok t b len m) (b - a) bb o' (m.getD cap - a) sz := by
  unfold slTok
  cases m with
  | none =>
    simp only []
    split
    · rename_i hc
      have := h hc.1
      show cap - a = b - a
      omega
    · trivial
  | some m' =>
    simp only []
    split
    · show m' - a = b - a
      omega
    · trivial

/-- A slice value's part. -/
theorem VRel.sl_sub {G : Gh} {w : World} {t' : Tok} {es : List AV} {b o sz : Nat} {cv : Nat → Value} {a c cap' o' : Nat}
    (h1 : ∀ e ∈ es, e.cells.length = sz) (h3 : ∀ (j : Nat) (c : AV), (flat es)[j]? = some c → G.imm b (o + j) ∧ w.cell? ⟨b, o + j, none⟩ = some (cv j) ∧ (cv j).oneCell' = true)
    (h4 : ∀ (j : Nat) (c : AV), (flat es)[j]? = some c → VRel G w c (cv j)) (hac : a ≤ c) (hc : c ≤ es.length) (hcap : c - a ≤ cap') (ho : c - a = 0 ∨ o' = o + a * sz)
    (ht : TokOk G w t' (c - a) b o' cap' sz) : VRel G w (.sl t' ((es.drop a).take (c - a))) (.slice (some ⟨b, o', none⟩) (c - a) cap') := by
  have hl : ((es.drop a).take (c - a)).length = c - a := by simp; omega
  have hf : flat ((es.drop a).take (c - a)) = ((flat es).drop (a * sz)).take ((c - a) * sz) := by
    rw [flat_take (sz := sz) (fun e he => h1 e (List.mem_of_mem_drop he)), flat_drop h1]
  have key : ∀ (j : Nat) (x : AV), (flat ((es.drop a).take (c - a)))[j]? = some x → (flat es)[a * sz + j]? = some x ∧ o' + j = o + (a * sz + j) := by
    intro j x hj
    rw [hf, List.getElem?_take, List.getElem?_drop] at hj
    split at hj
    · rename_i hlt
      rcases ho with ho | ho
      · rw [ho] at hlt; omega
      · exact ⟨hj, by omega⟩
    · cases hj
  have := VRel.sl (G := G) (w := w) t' ((es.drop a).take (c - a)) b o' cap' sz (fun j => cv (a * sz + j)) (fun e he => h1 e (List.mem_of_mem_drop (List.mem_of_mem_take he))) (hl.symm ▸ hcap)
    (fun j x hj => by obtain ⟨k1, k2⟩ := key j x hj; rw [k2]; exact h3 _ x k1) (fun j x hj => h4 _ x (key j x hj).1) (hl.symm ▸ ht)
  rwa [hl] at this

theorem slcSl_sound {P : Program} {G : Gh} {w : World} {st : St} {t e : TypeId} {sz : Option Nat} {lo hi mx : Option Value} {x v : AV} {bs : List AV} {y : Value} (hu : P.underlying t = some (.slice e)) (hs : szOf P e = some sz) (hI : Inv G w st)
    (h : evP (.slcSl sz lo.isSome hi.isSome mx.isSome) (x :: bs) = some v) (hx : VRel G w x y) (hr : ListRel G w bs (lo.toList ++ hi.toList ++ mx.toList)) :
    ∃ u, (Instr.sliceAt t y lo hi mx).run P w = .ok u w ∧ VRel G w v u := by
  obtain ⟨_, hz, hpos⟩ := szOf_run hs w
  cases x with
  | sl tk es =>
    simp only [evP] at h
    cases hb : boundsOf lo.isSome hi.isSome mx.isSome es.length bs with
    | none => simp [hb] at h
    | some r =>
      obtain ⟨a, b, m⟩ := r
      simp only [hb, Option.bind_some] at h
      split at h
      · rename_i hall
        injection h with h
        cases hx with
        | slnil _ htn =>
          obtain ⟨q1, q2, q3, q4⟩ := boundsOf_run (P := P) (w := w) (G := G) (cap := 0) true (Nat.le_refl _) hb hr
          have hb0 : b = 0 := by simpa using q3
          have ha0 : a = 0 := by omega
          subst hb0; subst ha0
          have hm : m.getD 0 = 0 := by
            cases m with
            | none => rfl
            | some m' => have := (q4 m' rfl).2; simp at this; simp [this]
          refine ⟨.slice none 0 0, ?_, ?_⟩
          · simp only [Instr.sliceAt, Instr.slice, Sem.run_bind, run_underlying hu, Result.andThen, q1, hz, hm]
            rfl
          · rw [← h]
            exact .slnil _ (slTok_nil _ _ _ _)
        | slz _ ad htn =>
          obtain ⟨q1, q2, q3, q4⟩ := boundsOf_run (P := P) (w := w) (G := G) (cap := 0) true (Nat.le_refl _) hb hr
          have hb0 : b = 0 := by simpa using q3
          have ha0 : a = 0 := by omega
          subst hb0; subst ha0
          have hm : m.getD 0 = 0 := by
            cases m with
            | none => rfl
            | some m' => have := (q4 m' rfl).2; simp at this; simp [this]
          refine ⟨.slice (some ad) 0 0, ?_, ?_⟩
          · simp only [Instr.sliceAt, Instr.slice, Sem.run_bind, run_underlying hu, Result.andThen, q1, hz, hm]
            rfl
          · rw [← h]
            exact .slz _ _ (slTok_nil _ _ _ _)
        | sl _ _ bb o cap sz' cv h1 h2 h3 h4 h5 =>
          obtain ⟨q1, q2, q3, q4⟩ := boundsOf_run (P := P) (w := w) (G := G) (cap := cap) true h2 hb hr
          have hszz : es ≠ [] → sz' = sz.getD 1 := fun hne => by
            obtain ⟨e0, he0⟩ := List.exists_mem_of_ne_nil _ hne
            have := h1 e0 he0
            simp only [allSz, List.all_eq_true, beq_iff_eq] at hall
            rw [← this]; exact hall e0 he0
          have hmc : m.getD cap ≤ cap ∧ b ≤ m.getD cap := by
            cases m with
            | none => simp; omega
            | some m' => have := q4 m' rfl; simp; omega
          by_cases hma : m.getD cap = a
          · -- nothing is left: the address stays
            have hba : b - a = 0 := by omega
            refine ⟨.slice (some ⟨bb, o, none⟩) (b - a) (m.getD cap - a), ?_, ?_⟩
            · simp only [Instr.sliceAt, Instr.slice, Sem.run_bind, run_underlying hu, Result.andThen, q1, hz]
              rw [if_pos hma]
              rfl
            · rw [← h]
              exact VRel.sl_sub h1 h3 h4 q2 q3 (by omega) (.inl hba) (slTok_ok (o := o) (fun e => by subst e; exact h5) _)
          · refine ⟨.slice (some ⟨bb, o + a * sz.getD 1, none⟩) (b - a) (m.getD cap - a), ?_, ?_⟩
            · simp only [Instr.sliceAt, Instr.slice, Sem.run_bind, run_underlying hu, Result.andThen, q1, hz]
              rw [if_neg hma]
              simp [addr_add]
            · rw [← h]
              refine VRel.sl_sub h1 h3 h4 q2 q3 (by omega) ?_ (slTok_ok (o := o) (fun e => by subst e; exact h5) _)
              by_cases hne : es = []
              · left; subst hne; simp at q3; omega
              · right; rw [hszz hne]
      · cases h
  | msl l off len sz' =>
    simp only [evP] at h
    cases hb : boundsOf lo.isSome hi.isSome mx.isSome len bs with
    | none => simp [hb] at h
    | some r =>
      obtain ⟨a, b, m⟩ := r
      simp only [hb, Option.bind_some] at h
      split at h
      · rename_i hc
        obtain ⟨rfl, rfl, hc0⟩ := hc
        injection h with h
        subst h
        cases hx with
        | msl _ _ _ _ B cap z h1 h2 h3 h4 =>
          obtain ⟨q1, q2, q3, _⟩ := boundsOf_run (P := P) (w := w) (G := G) (cap := cap) true h2 hb hr
          simp only [Option.getD_none] at q1
          by_cases hma : cap = a
          · have ha0 : a = 0 := by omega
            subst ha0
            refine ⟨.slice (some ⟨B, off, none⟩) (b - 0) (cap - 0), ?_, ?_⟩
            · simp only [Instr.sliceAt, Instr.slice, Sem.run_bind, run_underlying hu, Result.andThen, q1, hz]
              rw [if_pos hma]
              rfl
            · simp only [Nat.zero_mul, Nat.add_zero]
              exact .msl _ _ _ _ B (cap - 0) z h1 (by omega) h3 (by simpa using h4)
          · refine ⟨.slice (some ⟨B, off + a * sz.getD 1, none⟩) (b - a) (cap - a), ?_, ?_⟩
            · simp only [Instr.sliceAt, Instr.slice, Sem.run_bind, run_underlying hu, Result.andThen, q1, hz]
              rw [if_neg hma]
              simp [addr_add]
            · refine .msl _ _ _ _ B (cap - a) z h1 (by omega) h3 ?_
              have : a * sz.getD 1 + (cap - a) * sz.getD 1 = cap * sz.getD 1 := by rw [← Nat.add_mul]; congr 1; omega
              omega
      · cases h
  | _ => simp [evP] at h

end Go.Am

/- The abstract machine's operations are sound: composites, conversions, new memory. -/
namespace Go.Am

/-! Composites. -/

theorem setRange_length : ∀ (cs vs : List AV) (o : Nat), (setRange vs o cs).length = vs.length
  | [], _, _ => rfl
  | c :: cs, vs, o => by simp only [setRange]; rw [setRange_length cs]; simp

theorem setRange_get : ∀ (cs vs : List AV) (o i : Nat), (setRange vs o cs)[i]? = if o ≤ i ∧ i < o + cs.length ∧ i < vs.length then cs[i - o]? else vs[i]?
  | [], vs, o, i => by
    have : ¬ (o ≤ i ∧ i < o + ([] : List AV).length ∧ i < vs.length) := by simp; omega
    rw [if_neg this]; rfl
  | c :: cs, vs, o, i => by
    simp only [setRange]
    rw [setRange_get cs (vs.set o c) (o + 1) i, List.getElem?_set]
    simp only [List.length_set, List.length_cons]
    by_cases h1 : o + 1 ≤ i ∧ i < o + 1 + cs.length ∧ i < vs.length
    · rw [if_pos h1, if_pos (by omega), show i - o = (i - (o + 1)) + 1 by omega, List.getElem?_cons_succ]
    · rw [if_neg h1]
      by_cases h2 : o = i
      · subst h2
        by_cases h3 : o < vs.length
        · rw [if_pos rfl, if_pos h3, if_pos (by omega)]; simp
        · rw [if_pos rfl, if_neg h3, if_neg (by omega)]; simp [List.getElem?_eq_none (Nat.le_of_not_lt h3)]
      · rw [if_neg h2, if_neg (by omega)]

/-- The model's own fold, cell by cell. -/
theorem fold_get (off : Nat) : ∀ (us : List Value) (k : Nat) (cs : Array Value) (i : Nat), ((us.zipIdx k).foldl (fun cs (c, j) => cs.setIfInBounds (off + j) c) cs)[i]? =
    if off + k ≤ i ∧ i < off + k + us.length ∧ i < cs.size then us[i - (off + k)]? else cs[i]?
  | [], k, cs, i => by
    have : ¬ (off + k ≤ i ∧ i < off + k + ([] : List Value).length ∧ i < cs.size) := by simp; omega
    rw [if_neg this]; rfl
  | u :: us, k, cs, i => by
    simp only [List.zipIdx_cons, List.foldl_cons]
    rw [fold_get off us (k + 1) _ i, Array.getElem?_setIfInBounds]
    simp only [Array.size_setIfInBounds, List.length_cons]
    by_cases h1 : off + (k + 1) ≤ i ∧ i < off + (k + 1) + us.length ∧ i < cs.size
    · rw [if_pos h1, if_pos (by omega), show i - (off + k) = (i - (off + (k + 1))) + 1 by omega, List.getElem?_cons_succ]
    · rw [if_neg h1]
      by_cases h2 : off + k = i
      · rw [if_pos h2]
        by_cases h3 : i < cs.size
        · rw [if_pos (by omega), if_pos (by omega), show i - (off + k) = 0 by omega]; simp
        · rw [if_neg (by omega), if_neg (by omega)]; simp [Array.getElem?_eq_none (Nat.le_of_not_lt h3)]
      · rw [if_neg h2, if_neg (by omega)]

theorem fold_size (off : Nat) : ∀ (us : List Value) (k : Nat) (cs : Array Value), ((us.zipIdx k).foldl (fun cs (c, j) => cs.setIfInBounds (off + j) c) cs).size = cs.size
  | [], _, _ => rfl
  | u :: us, k, cs => by simp only [List.zipIdx_cons, List.foldl_cons]; rw [fold_size off us]; simp

def CRel (G : Gh) (w : World) (cs : List AV) (us : Array Value) : Prop :=
  cs.length = us.size ∧ ∀ (i : Nat) (c : AV) (u : Value), cs[i]? = some c → us[i]? = some u → VRel G w c u ∧ u.oneCell' = true

theorem CRel.agg {G : Gh} {w : World} {cs : List AV} {us : Array Value} (h : CRel G w cs us) : VRel G w (.agg cs) (.agg us) :=
  .agg _ _ h.1 (fun i v hv => by
    have hl := (Array.getElem?_eq_some_iff.1 hv).1
    have hl' : i < cs.length := by rw [h.1]; exact hl
    exact (h.2 i cs[i] v (by simp [hl']) hv).2) (fun i c v hc hv => (h.2 i c v hc hv).1)

theorem fillA_sound {G : Gh} {w : World} (place : Nat → Option (Nat × Nat)) : ∀ (parts : List (Nat × Value)) (ps : List (Nat × Nat)) (vs : List AV) (cs : List AV) (us : Array Value) (r : List AV), CRel G w cs us → fillA cs ps vs = some r →
    parts.length = ps.length → (∀ (i : Nat) (p : Nat × Value) (q : Nat × Nat), parts[i]? = some p → ps[i]? = some q → place p.1 = some q) → ListRel G w vs (parts.map (·.2)) →
    ∃ ru, Instr.fill place us parts = some ru ∧ CRel G w r ru
  | [], ps, vs, cs, us, r, hc, h, hl, hp, hr => by
    have hps : ps = [] := by simpa using hl.symm
    have hvs : vs = [] := hr.nil_inv
    subst hps; subst hvs
    simp [fillA] at h
    subst h
    exact ⟨us, rfl, hc⟩
  | (i, y) :: parts, ps, vs, cs, us, r, hc, h, hl, hp, hr => by
    cases ps with
    | nil => simp at hl
    | cons q ps =>
      obtain ⟨off, size⟩ := q
      obtain ⟨v, vs', rfl, hv, hr'⟩ := hr.cons_inv
      have hv : VRel G w v y := hv
      simp only [fillA] at h
      split at h
      · cases h
      · rename_i hcond
        simp only [Bool.or_eq_true, bne_iff_ne, ne_eq, decide_eq_true_eq, not_or, Decidable.not_not] at hcond
        obtain ⟨⟨⟨ha, ht⟩, hs⟩, ho⟩ := hcond
        have hne : v ≠ .any := fun e => by subst e; simp [isAny] at ha
        obtain ⟨k1, k2⟩ := hv.cells hne (by simpa using ht)
        have hpl : place i = some (off, size) := hp 0 (i, y) (off, size) rfl rfl
        have hnew : CRel G w (setRange cs off v.cells) ((y.cells.toList.zipIdx).foldl (fun cs (c, j) => cs.setIfInBounds (off + j) c) us) := by
          refine ⟨by rw [setRange_length, fold_size]; exact hc.1, fun j c u hj hu => ?_⟩
          rw [setRange_get] at hj
          rw [fold_get] at hu
          have e1 : y.cells.toList.length = v.cells.length := by simp [k1]
          rw [e1, ← hc.1] at hu
          simp only [Nat.add_zero] at hu
          split at hj
          · rename_i hin
            rw [if_pos hin] at hu
            exact k2 _ c u hj (by simpa using hu)
          · rename_i hout
            rw [if_neg hout] at hu
            exact hc.2 j c u hj hu
        obtain ⟨ru, q1, q2⟩ := fillA_sound place parts ps vs' _ _ r hnew h (by simpa using hl) (fun j p q hp' hq' => hp (j + 1) p q (by simpa using hp') (by simpa using hq')) hr'
        refine ⟨ru, ?_, q2⟩
        rw [← q1]
        simp only [Instr.fill, hpl]
        rw [if_neg]
        · congr 1
          rw [← Array.foldl_toList, Array.toList_zipIdx]
        · simp only [Bool.or_eq_true, decide_eq_true_eq, ne_eq, not_or, Decidable.not_not]
          have := hc.1
          omega


theorem constA1_sound {G : Gh} {w : World} {x : Value} {v : AV} (h : constA1 x = some v) : VRel G w v x ∧ x.oneCell' = true ∧ isTup v = false := by
  unfold constA1 at h
  split at h <;> first | (cases h; done) | skip
  all_goals
    injection h with h
    subst h
    refine ⟨by first | exact .slnil _ trivial | constructor, rfl, rfl⟩

theorem mapM_constA1 {G : Gh} {w : World} : ∀ (xs : List Value) (vs : List AV), xs.mapM constA1 = some vs → vs.length = xs.length ∧ ∀ (i : Nat) (c : AV) (u : Value), vs[i]? = some c → xs[i]? = some u → VRel G w c u ∧ u.oneCell' = true
  | [], vs, h => by simp at h; subst h; exact ⟨rfl, by simp⟩
  | x :: xs, vs, h => by
    simp only [List.mapM_cons, Option.bind_eq_bind] at h
    cases h1 : constA1 x with
    | none => simp [h1] at h
    | some v =>
      cases h2 : xs.mapM constA1 with
      | none => simp [h1, h2] at h
      | some vs' =>
        simp [h1, h2] at h
        subst h
        obtain ⟨q1, q2⟩ := mapM_constA1 (G := G) (w := w) xs vs' h2
        obtain ⟨p1, p2, _⟩ := constA1_sound (G := G) (w := w) h1
        refine ⟨by simp [q1], fun i c u hc hu => ?_⟩
        cases i with
        | zero => simp at hc hu; subst hc; subst hu; exact ⟨p1, p2⟩
        | succ i => simp at hc hu; exact q2 i c u hc hu

theorem constA_sound {G : Gh} {w : World} {x : Value} {v : AV} (h : constA x = some v) : VRel G w v x ∧ isTup v = false ∧ v ≠ .any := by
  unfold constA at h
  split at h
  · rename_i cs
    cases hm : cs.toList.mapM constA1 with
    | none => simp [hm] at h
    | some vs =>
      simp [hm] at h
      subst h
      obtain ⟨q1, q2⟩ := mapM_constA1 (G := G) (w := w) _ _ hm
      exact ⟨CRel.agg ⟨by simpa using q1, fun i c u hc hu => q2 i c u hc (by simpa using hu)⟩, rfl, nofun⟩
  · obtain ⟨p1, p2, p3⟩ := constA1_sound (G := G) (w := w) h
    exact ⟨p1, p3, fun e => by subst e; unfold constA1 at h; split at h <;> cases h⟩

theorem zeroA_sound {P : Program} {G : Gh} {w : World} {t : TypeId} {z : AV} (h : zeroA P t = some z) : ∃ i zv, P.info? t = some i ∧ i.zero = some zv ∧ VRel G w z zv ∧ isTup z = false ∧ z ≠ .any := by
  unfold zeroA at h
  cases hi : P.info? t with
  | none => simp [hi] at h
  | some i =>
    cases hz : i.zero with
    | none => simp [hi, hz] at h
    | some zv =>
      simp [hi, hz] at h
      obtain ⟨q1, q2, q3⟩ := constA_sound (G := G) (w := w) h
      exact ⟨i, zv, rfl, hz, q1, q2, q3⟩

theorem szOf_size {P : Program} {t : TypeId} {sz : Option Nat} (h : szOf P t = some sz) : ∃ i, P.info? t = some i ∧ i.size = sz.getD 1 := by
  unfold szOf at h
  split at h
  · split at h
    · cases h
    · injection h with h; subst h; exact ⟨_, by assumption, rfl⟩
  · split at h
    · cases h
    · injection h with h; subst h; exact ⟨_, by assumption, rfl⟩
  · split at h
    · injection h with h; subst h; exact ⟨_, by assumption, by assumption⟩
    · cases h
  · cases h

theorem mapM_get {α β : Type} {f : α → Option β} : ∀ {xs : List α} {ys : List β}, xs.mapM f = some ys → ys.length = xs.length ∧ ∀ (i : Nat) (x : α) (y : β), xs[i]? = some x → ys[i]? = some y → f x = some y
  | [], ys, h => by simp at h; subst h; exact ⟨rfl, by simp⟩
  | x :: xs, ys, h => by
    simp only [List.mapM_cons, Option.bind_eq_bind] at h
    cases h1 : f x with
    | none => simp [h1] at h
    | some v =>
      cases h2 : xs.mapM f with
      | none => simp [h1, h2] at h
      | some vs' =>
        simp [h1, h2] at h
        subst h
        obtain ⟨q1, q2⟩ := mapM_get h2
        refine ⟨by simp [q1], fun i c u hc hu => ?_⟩
        cases i with
        | zero => simp at hc hu; subst hc; subst hu; exact h1
        | succ i => simp at hc hu; exact q2 i c u hc hu

theorem mapM_total {α β : Type} {f : α → Option β} : ∀ (xs : List α), (∀ x ∈ xs, (f x).isSome = true) → ∃ ys, xs.mapM f = some ys
  | [], _ => ⟨[], rfl⟩
  | x :: xs, h => by
    obtain ⟨y, hy⟩ := Option.isSome_iff_exists.1 (h x (by simp))
    obtain ⟨ys, hys⟩ := mapM_total xs (fun x hx => h x (by simp [hx]))
    exact ⟨y :: ys, by simp [List.mapM_cons, hy, hys]⟩

/-- A struct's value out of its parts. -/
theorem build_struct_sound {P : Program} {G : Gh} {w : World} {t : TypeId} {fs : Array Field} {z : List AV} {parts : Array (Nat × Value)} {ps : List (Nat × Nat)} {vs : List AV} {v : AV} (hu : P.underlying t = some (.struct fs)) (hz : zeroA P t = some (.agg z))
    (hall : fs.toList.all (fun f => (P.info? f.type).isSome) = true) (hps : parts.toList.mapM (fun p => (fs[p.1]?).bind fun f => (szOf P f.type).map fun s => (f.offset, s.getD 1)) = some ps)
    (h : evP (.build z ps) vs = some v) (hr : ListRel G w vs (parts.toList.map (·.2))) : ∃ u, (Instr.build t parts).run P w = .ok u w ∧ VRel G w v u := by
  obtain ⟨it, zv, hi, hzv, q1, _, _⟩ := zeroA_sound (G := G) (w := w) hz
  simp only [evP] at h
  cases hf : fillA z ps vs with
  | none => simp [hf] at h
  | some r =>
    simp [hf] at h
    subst h
    obtain ⟨m1, m2⟩ := mapM_get hps
    obtain ⟨places, hpl⟩ := mapM_total (f := fun (f : Field) => (P.info? f.type).map fun i => (f.offset, i.size)) fs.toList (fun f hf => by
      simp only [List.all_eq_true] at hall
      have := hall f hf
      obtain ⟨i, hi⟩ := Option.isSome_iff_exists.1 this
      simp [hi])
    obtain ⟨p1, p2⟩ := mapM_get hpl
    cases q1 with
    | agg _ zs a1 a2 a3 =>
      obtain ⟨ru, f1, f2⟩ := fillA_sound (G := G) (w := w) (fun x => places[x]?) parts.toList ps vs z zs r ⟨a1, fun i c u hc hu => ⟨a3 i c u hc hu, a2 i u hu⟩⟩ hf m1.symm (fun i p q hp hq => by
        have := m2 i p q hp hq
        cases hfi : fs[p.1]? with
        | none => simp [hfi] at this
        | some f =>
          cases hsz : szOf P f.type with
          | none => simp [hfi, hsz] at this
          | some s =>
            simp [hfi, hsz] at this
            subst this
            obtain ⟨i', hi', hs'⟩ := szOf_size hsz
            have hlt : p.1 < places.length := by rw [p1]; simpa using (Array.getElem?_eq_some_iff.1 hfi).1
            have := p2 p.1 f places[p.1] (by simpa using hfi) (by simp [hlt])
            simp [hi', hs'] at this
            simp [hlt, this]) hr
      refine ⟨.agg ru, run_build w t parts ru ?_, f2.agg⟩
      have hpl' : fs.toList.mapM (fun f => (P.info? f.type).map fun i => (f.offset, i.size)) = some places := hpl
      simp only [Program.built, hi, hu, hzv, hpl', Value.cells]
      simpa using f1

theorem build_array_sound {P : Program} {G : Gh} {w : World} {t e : TypeId} {n : Nat} {s : Option Nat} {z : List AV} {parts : Array (Nat × Value)} {vs : List AV} {v : AV} (hu : P.underlying t = some (.array n e)) (hz : zeroA P t = some (.agg z)) (hs : szOf P e = some s)
    (h : evP (.build z (parts.toList.map fun p => (p.1 * s.getD 1, s.getD 1))) vs = some v) (hr : ListRel G w vs (parts.toList.map (·.2))) : ∃ u, (Instr.build t parts).run P w = .ok u w ∧ VRel G w v u := by
  obtain ⟨it, zv, hi, hzv, q1, _, _⟩ := zeroA_sound (G := G) (w := w) hz
  obtain ⟨ie, hie, hse⟩ := szOf_size hs
  simp only [evP] at h
  cases hf : fillA z (parts.toList.map fun p => (p.1 * s.getD 1, s.getD 1)) vs with
  | none => simp [hf] at h
  | some r =>
    simp [hf] at h
    subst h
    cases q1 with
    | agg _ zs a1 a2 a3 =>
      obtain ⟨ru, f1, f2⟩ := fillA_sound (G := G) (w := w) (fun i => some (i * ie.size, ie.size)) parts.toList _ vs z zs r ⟨a1, fun i c u hc hu => ⟨a3 i c u hc hu, a2 i u hu⟩⟩ hf (by simp) (fun i p q hp hq => by
        rw [List.getElem?_map, hp] at hq
        simp at hq
        rw [hse, hq]) hr
      refine ⟨.agg ru, run_build w t parts ru ?_, f2.agg⟩
      simp only [Program.built, hi, hu, hzv, hie, Value.cells]
      exact f1


/-! New memory that never turns again. -/

theorem newImm' {G : Gh} {w : World} {st : St} (hI : Inv G w st) {us : Array Value} {e : TypeId} {fr : Nat × Nat} {es : List AV} {sz : Nat} {tk : Tok} (cap : Nat) (h1 : ∀ x ∈ es, x.cells.length = sz) (hcap : es.length ≤ cap)
    (hlen : (flat es).length ≤ us.size) (hc : ∀ (i : Nat) (c : AV) (u : Value), (flat es)[i]? = some c → us[i]? = some u → VRel G w c u ∧ u.oneCell' = true) (htk : tk = .any ∨ (tk = .clip ∧ cap = es.length)) :
    Inv (G.addImm fun b o => b = w.heap.size ∧ o < (flat es).length) (w.alloc (.cells us e fr)) st ∧ Ext G w (G.addImm fun b o => b = w.heap.size ∧ o < (flat es).length) (w.alloc (.cells us e fr)) st.heap.length st.toks.length ∧
      VRel (G.addImm fun b o => b = w.heap.size ∧ o < (flat es).length) (w.alloc (.cells us e fr)) (.sl tk es) (.slice (some ⟨w.heap.size, 0, none⟩) es.length cap) := by
  obtain ⟨i1, e1⟩ := hI.allocGarbage (.cells us e fr)
  have hcell : ∀ i, (hi : i < us.size) → (w.alloc (.cells us e fr)).cell? ⟨w.heap.size, i, none⟩ = some us[i] := fun i hi => by
    simp only [World.cell?, alloc_new]; simp [hi]
  have hS : ∀ b o, (b = w.heap.size ∧ o < (flat es).length) → G.base ≤ b := fun b o hb => by rw [hb.1]; exact hI.bsz
  have e2 := Ext.addImm G (w.alloc (.cells us e fr)) (fun b o => b = w.heap.size ∧ o < (flat es).length) st.heap.length st.toks.length hS
  have i2 := i1.addImm (fun b o => b = w.heap.size ∧ o < (flat es).length) (fun b o ⟨hb, ho⟩ => by subst hb; exact ⟨us[o]'(by omega), hcell o (by omega)⟩)
    (fun b o ⟨hb, _⟩ l hl => by subst hb; have := (hI.img l _ hl).2; omega) (fun b o ⟨hb, _⟩ k i hk e => by
      obtain ⟨_, _, ⟨z, a3, _⟩, _⟩ := hI.tdom k i hk
      have := bsize_lt a3
      omega) hS
  refine ⟨i2, e1.trans e2 (Nat.le_refl _) (Nat.le_refl _), ?_⟩
  have hv : ∀ v x, VRel G w v x → VRel (G.addImm (fun b o => b = w.heap.size ∧ o < (flat es).length)) (w.alloc (.cells us e fr)) v x := fun v x hv => hv.inv hI (e1.trans e2 (Nat.le_refl _) (Nat.le_refl _))
  refine .sl tk es _ 0 cap sz (fun j => us.getD j undef) h1 hcap (fun j c hj => ?_) (fun j c hj => ?_) ?_
  · have hl := (List.getElem?_eq_some_iff.1 hj).1
    have hu : j < us.size := by omega
    refine ⟨.inr ⟨rfl, by omega⟩, ?_, ?_⟩
    · rw [Nat.zero_add, hcell j hu]; simp [hu]
    · have := (hc j c us[j] hj (by simp [hu])).2
      simpa [hu] using this
  · have hl := (List.getElem?_eq_some_iff.1 hj).1
    have hu : j < us.size := by omega
    have := hv _ _ (hc j c us[j] hj (by simp [hu])).1
    simpa [hu] using this
  · rcases htk with rfl | ⟨rfl, rfl⟩
    · trivial
    · rfl

theorem newImm {G : Gh} {w : World} {st : St} (hI : Inv G w st) {us : Array Value} {e : TypeId} {fr : Nat × Nat} {es : List AV} {sz : Nat} {tk : Tok} (cap : Nat) (h1 : ∀ x ∈ es, x.cells.length = sz) (hcap : es.length ≤ cap)
    (hlen : (flat es).length ≤ us.size) (hc : ∀ (i : Nat) (c : AV) (u : Value), (flat es)[i]? = some c → us[i]? = some u → VRel G w c u ∧ u.oneCell' = true) (htk : tk = .any ∨ (tk = .clip ∧ cap = es.length)) :
    ∃ G', Inv G' (w.alloc (.cells us e fr)) st ∧ Ext G w G' (w.alloc (.cells us e fr)) st.heap.length st.toks.length ∧ VRel G' (w.alloc (.cells us e fr)) (.sl tk es) (.slice (some ⟨w.heap.size, 0, none⟩) es.length cap) :=
  ⟨_, newImm' hI cap h1 hcap hlen hc htk⟩

/-- The cells of a list of values. -/
theorem flat_rel {G : Gh} {w : World} {sz : Nat} : ∀ {vs : List AV} {ys : List Value}, ListRel G w vs ys → (∀ v ∈ vs, v ≠ .any ∧ isTup v = false ∧ v.cells.length = sz) →
    (flat vs).length = (ys.flatMap (fun y => y.cells.toList)).length ∧ ∀ (i : Nat) (c : AV) (u : Value), (flat vs)[i]? = some c → (ys.flatMap (fun y => y.cells.toList))[i]? = some u → VRel G w c u ∧ u.oneCell' = true
  | [], ys, h, _ => by
    have : ys = [] := by have := h.1; simpa using this.symm
    subst this
    exact ⟨rfl, by simp [flat]⟩
  | v :: vs, ys, h, hv => by
    cases ys with
    | nil => have := h.1; simp at this
    | cons y ys =>
      obtain ⟨x, xs, e, hx, hr⟩ := h.cons_inv
      injection e with e1 e2
      subst e1; subst e2
      obtain ⟨n1, n2, n3⟩ := hv v (by simp)
      obtain ⟨k1, k2⟩ := hx.cells_list n1 n2
      obtain ⟨q1, q2⟩ := flat_rel hr (fun v hv' => hv v (by simp [hv']))
      simp only [flat, List.flatMap_cons, List.length_append] at q1 q2 ⊢
      refine ⟨by omega, fun i c u hc hu => ?_⟩
      rcases Nat.lt_or_ge i v.cells.length with hlt | hge
      · rw [List.getElem?_append_left hlt] at hc
        rw [List.getElem?_append_left (by omega)] at hu
        exact k2 i c u hc hu
      · rw [List.getElem?_append_right hge] at hc
        rw [List.getElem?_append_right (by omega), ← k1] at hu
        exact q2 _ c u hc hu

/-- 'buildSlice' over parts in their order. -/
theorem fill_inorder {sz : Nat} : ∀ (ys : List Value) (k : Nat) (cells : Array Value), (∀ y ∈ ys, y.cells.size = sz) → (k + ys.length) * sz ≤ cells.size →
    ∃ r, Instr.fill (fun i => some (i * sz, sz)) cells ((List.range' k ys.length).zip ys) = some r ∧ r.size = cells.size ∧
      ∀ i, r[i]? = if k * sz ≤ i ∧ i < (k + ys.length) * sz then (ys.flatMap (fun y => y.cells.toList))[i - k * sz]? else cells[i]?
  | [], k, cells, _, _ => ⟨cells, rfl, rfl, fun i => by rw [if_neg (by rintro ⟨a, b⟩; simp at b; omega)]⟩
  | y :: ys, k, cells, hy, hk => by
    have hys := hy y (by simp)
    have hk2 : (k + 1 + ys.length) * sz ≤ cells.size := by simp at hk; rwa [show k + 1 + ys.length = k + (ys.length + 1) by omega]
    have hks : (k + 1) * sz = k * sz + sz := Nat.succ_mul k sz
    have hle : (k + 1) * sz ≤ (k + 1 + ys.length) * sz := Nat.mul_le_mul_right _ (by omega)
    obtain ⟨r, f1, f2, f3⟩ := fill_inorder ys (k + 1) ((y.cells.toList.zipIdx).foldl (fun cs (c, j) => cs.setIfInBounds (k * sz + j) c) cells) (fun y hy' => hy y (by simp [hy'])) (by rw [fold_size]; exact hk2)
    refine ⟨r, ?_, by rw [f2, fold_size], fun i => ?_⟩
    · rw [← f1]
      simp only [List.length_cons, List.range'_succ, List.zip_cons_cons, Instr.fill]
      rw [if_neg]
      · congr 1
        rw [← Array.foldl_toList, Array.toList_zipIdx]
      · simp only [Bool.or_eq_true, decide_eq_true_eq, ne_eq, not_or, Decidable.not_not]
        omega
    · rw [f3 i, fold_get]
      have hyl : y.cells.toList.length = sz := by simp [hys]
      simp only [List.flatMap_cons, Nat.add_zero, hyl, List.length_cons]
      rw [show k + (ys.length + 1) = k + 1 + ys.length by omega]
      by_cases h1 : (k + 1) * sz ≤ i ∧ i < (k + 1 + ys.length) * sz
      · rw [if_pos h1, if_pos (by omega), List.getElem?_append_right (by omega), hyl, show i - k * sz - sz = i - (k + 1) * sz by omega]
      · rw [if_neg h1]
        by_cases h2 : k * sz ≤ i ∧ i < k * sz + sz ∧ i < cells.size
        · rw [if_pos h2, if_pos (by omega), List.getElem?_append_left (by omega)]
        · rw [if_neg h2, if_neg (by omega)]

end Go.Am

/- The abstract machine's operations are sound: slices that are made, copied, appended to. -/
namespace Go.Am

theorem unzip_zip {α β : Type} : ∀ (l : List (α × β)), (l.map (·.1)).zip (l.map (·.2)) = l
  | [] => rfl
  | (a, b) :: l => by simp [unzip_zip l]

theorem buildSl_sound {P : Program} {G : Gh} {w : World} {st : St} {t e : TypeId} {n : Nat} {sz : Option Nat} {parts : Array (Nat × Value)} {vs : List AV} {v : AV} (hI : Inv G w st) (hu : P.underlying t = some (.slice e)) (hs : szOf P e = some sz)
    (hr : parts.toList.map (·.1) = List.range n) (h24 : n * sz.getD 1 ≤ 16777216) (hz : (P.info? e).any (·.zero.isSome) = true) (h : evP (.buildSl sz) vs = some v) (hv : ListRel G w vs (parts.toList.map (·.2))) :
    SOk P G w st (Instr.buildSlice t n parts) v st := by
  obtain ⟨_, hsz, hpos⟩ := szOf_run hs w
  simp only [evP] at h
  split at h
  · rename_i hall
    injection h with h
    subst h
    have hsh : ∀ x ∈ vs, x ≠ .any ∧ isTup x = false ∧ x.cells.length = sz.getD 1 := fun x hx => shaped_facts (by simp only [List.all_eq_true] at hall; exact hall x hx)
    obtain ⟨q1, q2⟩ := flat_rel hv hsh
    have hn : (parts.toList.map (·.2)).length = n := by
      have := congrArg List.length hr
      simpa using this
    have hvn : vs.length = n := by rw [hv.1, hn]
    obtain ⟨it, hit, hiz⟩ : ∃ it, P.info? e = some it ∧ it.zero.isSome = true := by
      cases hi : P.info? e with
      | none => simp [hi] at hz
      | some it => exact ⟨it, rfl, by simpa [hi] using hz⟩
    obtain ⟨zv, hzv⟩ := Option.isSome_iff_exists.1 hiz
    have hys : ∀ y ∈ parts.toList.map (·.2), y.cells.size = sz.getD 1 := by
      intro y hy
      obtain ⟨i, hi, rfl⟩ := List.mem_iff_getElem.1 hy
      have hi' : i < vs.length := by rw [hv.1]; exact hi
      have hx := hsh vs[i] (List.getElem_mem hi')
      have := hv.2 i vs[i] _ (by simp [hi']) (List.getElem?_eq_getElem hi)
      rw [← (this.cells hx.1 hx.2.1).1]
      exact hx.2.2
    have hzr : ∃ zc : Array Value, Sem.run P (if n * sz.getD 1 = 0 then pure #[] else do pure (← zeroValue e).cells) w = .ok zc w := by
      split
      · exact ⟨_, rfl⟩
      · exact ⟨zv.cells, by simp [zeroValue, typeInfo, hit, hzv]⟩
    obtain ⟨zc, hzc⟩ := hzr
    obtain ⟨r, f1, f2, f3⟩ := fill_inorder (sz := sz.getD 1) (parts.toList.map (·.2)) 0 ((Array.range (n * sz.getD 1)).map (zc[· % zc.size]!)) hys (by rw [hn]; simp)
    have hparts : (List.range' 0 (parts.toList.map (·.2)).length).zip (parts.toList.map (·.2)) = parts.toList := by
      rw [hn, ← List.range_eq_range', ← hr, unzip_zip]
    rw [hparts] at f1
    have hfl : (flat vs).length = n * sz.getD 1 := by rw [flat_length (fun x hx => (hsh x hx).2.2), hvn]
    have hrun : (Instr.buildSlice t n parts).run P w = .ok (.slice (some ⟨w.heap.size, 0, none⟩) n n) (w.alloc (.cells r e)) := by
      have h24' : ¬ (n * sz.getD 1 > 2 ^ 24) := by omega
      simp only [Instr.buildSlice, Sem.run_bind, Sem.run_ite, Sem.run_pure, run_underlying hu, Result.andThen, hsz, if_neg h24'] at hzc ⊢
      have hzv' : (zeroValue e).run P w = .ok zv w := by simp [zeroValue, typeInfo, hit, hzv]
      rw [hzv'] at hzc ⊢
      split at hzc
      · rename_i h0
        injection hzc with hzc
        subst hzc
        rw [if_pos h0, f1]
        simp [newRow]
      · rename_i h0
        injection hzc with hzc
        subst hzc
        rw [if_neg h0]
        simp only []
        rw [f1]
        simp [newRow]
    obtain ⟨G', i1, e1, v1⟩ := newImm hI (us := r) (e := e) (fr := (0, 0)) (es := vs) (sz := sz.getD 1) (tk := .clip) n (fun x hx => (hsh x hx).2.2) (by omega) (by rw [f2, hfl]; simp) (fun i c u hc hu => by
      have hlt : i < n * sz.getD 1 := by rw [← hfl]; exact (List.getElem?_eq_some_iff.1 hc).1
      rw [f3 i, hn, Nat.zero_add, if_pos ⟨by simp, hlt⟩] at hu
      simp only [Nat.zero_mul, Nat.sub_zero] at hu
      exact q2 i c u hc hu) (.inr ⟨rfl, hvn.symm⟩)
    rw [hvn] at v1
    exact ⟨_, _, G', hrun, i1, e1, v1⟩
  · cases h

theorem conv_sound {P : Program} {G : Gh} {w : World} {src dst : TypeId} {j k : IntKind} {x v : AV} {y : Value} (hs : P.underlying src = some (.int j)) (hd : P.underlying dst = some (.int k)) (h : evP (.conv k) [x] = some v) (hx : VRel G w x y) :
    ∃ u, (convert src dst y).run P w = .ok u w ∧ VRel G w v u := by
  cases x <;> simp [evP] at h
  subst h
  cases hx
  exact ⟨_, by simp [convert, run_underlying hs, run_underlying hd, Conv.intToInt], .int _ _⟩

theorem toBytes_inv : ∀ {es : List AV} {l : List UInt8}, toBytes es = some l → l.length = es.length ∧ ∀ (i : Nat) (c : AV), es[i]? = some c → ∃ n, c = .int .u8 n ∧ l[i]? = some (UInt8.ofNat n.toNat)
  | [], l, h => by simp [toBytes] at h; subst h; exact ⟨rfl, by simp⟩
  | e :: es, l, h => by
    unfold toBytes at h
    split at h
    · rename_i heq; cases heq
    · rename_i n es' heq
      injection heq with e1 e2
      subst e1; subst e2
      cases h2 : toBytes es with
      | none => simp [h2] at h
      | some l' =>
        simp [h2] at h
        subst h
        obtain ⟨q1, q2⟩ := toBytes_inv h2
        refine ⟨by simp [q1], fun i c hc => ?_⟩
        cases i with
        | zero => simp at hc; subst hc; exact ⟨n, rfl, rfl⟩
        | succ i => simp at hc; simpa using q2 i c hc
    · cases h

theorem bytes_back {P : Program} {G : Gh} {w : World} {src dst e : TypeId} {b o cap : Nat} {es : List AV} {l : List UInt8} (hs : P.underlying src = some (.slice e)) (he : P.underlying e = some (.int .u8)) (hd : P.underlying dst = some .string)
    (hl : toBytes es = some l) (hc : CellsAt G w b o es) : (convert src dst (.slice (some ⟨b, o, none⟩) es.length cap)).run P w = .ok (.string ⟨l.toArray⟩) w := by
  obtain ⟨q1, q2⟩ := toBytes_inv hl
  obtain ⟨us, u1, u2, u3⟩ := hc.list
  have hns : ∃ ns : List Int, us = ns.map (Value.int .u8) ∧ ns.foldl (fun r n => r.push (UInt8.ofNat n.toNat)) ByteArray.empty = ⟨l.toArray⟩ := by
    have key : ∀ (es : List AV) (us : List Value) (l : List UInt8) (r : ByteArray), us.length = es.length → l.length = es.length → (∀ (i : Nat) (c : AV), es[i]? = some c → ∃ n, c = .int .u8 n ∧ l[i]? = some (UInt8.ofNat n.toNat)) →
        (∀ (j : Nat) (c : AV) (u : Value), es[j]? = some c → us[j]? = some u → VRel G w c u ∧ u.oneCell' = true) → ∃ ns : List Int, us = ns.map (Value.int .u8) ∧ ns.foldl (fun r n => r.push (UInt8.ofNat n.toNat)) r = ⟨r.data ++ l.toArray⟩ := by
      intro es
      induction es with
      | nil =>
        intro us l r h1 h2 _ _
        have e1 : us = [] := by simpa using h1
        have e2 : l = [] := by simpa using h2
        subst e1; subst e2
        exact ⟨[], rfl, by simp⟩
      | cons c es ih =>
        intro us l r h1 h2 h3 h4
        cases us with
        | nil => simp at h1
        | cons u us =>
          cases l with
          | nil => simp at h2
          | cons x l =>
            obtain ⟨n, rfl, hx⟩ := h3 0 c rfl
            simp at hx
            subst hx
            have hu := (h4 0 _ u rfl rfl).1
            cases hu
            obtain ⟨ns, n1, n2⟩ := ih us l (r.push (UInt8.ofNat n.toNat)) (by simpa using h1) (by simpa using h2) (fun i c hc => by have := h3 (i + 1) c (by simpa using hc); simpa using this)
              (fun j c u hc hu => h4 (j + 1) c u (by simpa using hc) (by simpa using hu))
            refine ⟨n :: ns, by simp [n1], ?_⟩
            simp only [List.foldl_cons]
            rw [n2]
            simp [ByteArray.push]
    obtain ⟨ns, n1, n2⟩ := key es us l ByteArray.empty u1 q1 q2 u3
    exact ⟨ns, n1, by rw [n2]; simp [ByteArray.empty, ByteArray.emptyWithCapacity]; rfl⟩
  obtain ⟨ns, rfl, n2⟩ := hns
  have hload := run_loadCells_at P u2
  rw [u1] at hload
  have := run_bytesToString (P := P) w ⟨b, o, none⟩ es.length cap ns hload
  rw [n2] at this
  simp [convert, run_underlying hs, run_underlying hd, run_underlying he, this]

theorem flat_scalar : ∀ {es : List AV}, (∀ e ∈ es, e.cells = [e]) → flat es = es
  | [], _ => rfl
  | e :: es, h => by
    have := flat_scalar (es := es) (fun x hx => h x (by simp [hx]))
    simp only [flat, List.flatMap_cons] at this ⊢
    rw [h e (by simp), this]
    rfl

theorem toBytes_scalar {es : List AV} {l : List UInt8} (h : toBytes es = some l) : ∀ e ∈ es, e.cells = [e] := by
  intro e he
  obtain ⟨i, hi, rfl⟩ := List.mem_iff_getElem.1 he
  obtain ⟨n, hn, _⟩ := (toBytes_inv h).2 i es[i] (by simp [hi])
  rw [hn]
  rfl

theorem strOf_sound {P : Program} {G : Gh} {w : World} {st : St} {src dst e : TypeId} {x v : AV} {y : Value} (hI : Inv G w st) (hs : P.underlying src = some (.slice e)) (he : isU8 P e = true) (hd : P.underlying dst = some .string) (h : evR .strOf [x] st = some v) (hx : VRel G w x y) :
    ∃ u, (convert src dst y).run P w = .ok u w ∧ VRel G w v u := by
  have he' : P.underlying e = some (.int .u8) := by
    unfold isU8 at he
    split at he
    · assumption
    · cases he
  cases x with
  | sl tk es =>
    simp only [evR] at h
    cases hb : toBytes es with
    | none => simp [hb] at h
    | some l =>
      simp [hb] at h
      subst h
      refine ⟨.string ⟨l.toArray⟩, ?_, VRel.str' l⟩
      cases hx with
      | slnil =>
        simp [toBytes] at hb
        subst hb
        simp [convert, run_underlying hs, run_underlying hd, run_underlying he', Conv.bytesToString]
        rfl
      | slz =>
        simp [toBytes] at hb
        subst hb
        simp [convert, run_underlying hs, run_underlying hd, run_underlying he', Conv.bytesToString]
        rfl
      | sl _ _ b o cap sz cv h1 h2 h3 h4 h5 =>
        refine bytes_back (G := G) hs he' hd hb ?_
        rw [flat_scalar (toBytes_scalar hb)] at h3 h4
        exact fun j c hj => ⟨_, (h3 j c hj).2.1, h4 j c hj, (h3 j c hj).2.2⟩
  | msl l off len sz =>
    cases sz with
    | some _ => simp [evR] at h
    | none =>
      simp only [evR] at h
      cases hl : st.heap[l]? with
      | none => simp [hl] at h
      | some blk =>
        rw [hl] at h
        cases blk with
        | cells fz vs =>
          simp only [] at h
          split at h
          · rename_i hle
            cases hb : toBytes ((vs.drop off).take len) with
            | none => simp [hb] at h
            | some bs =>
              simp [hb] at h
              subst h
              cases hx with
              | msl _ _ _ _ B cap z h1 h2 h3 h4 =>
                obtain ⟨B', p1, p2⟩ := hI.blk l _ hl
                rw [h1] at p1
                injection p1 with p1
                subst p1
                have hlen : ((vs.drop off).take len).length = len := by simp; omega
                refine ⟨.string ⟨bs.toArray⟩, ?_, VRel.str' _⟩
                have := bytes_back (P := P) (cap := cap) hs he' hd hb ((p2.cellsAt.drop off).take len)
                rw [hlen] at this
                simpa using this
          · cases h
        | _ => simp at h
  | _ => simp [evR] at h

theorem bytesOf_sound {P : Program} {G : Gh} {w : World} {st : St} {src dst e : TypeId} {x v : AV} {y : Value} (hI : Inv G w st) (hs : P.underlying src = some .string) (hd : P.underlying dst = some (.slice e)) (he : isU8 P e = true) (h : evP .bytesOf [x] = some v) (hx : VRel G w x y) :
    SOk P G w st (convert src dst y) v st := by
  have he' : P.underlying e = some (.int .u8) := by
    unfold isU8 at he
    split at he
    · assumption
    · cases he
  cases x <;> simp [evP] at h
  rename_i l
  obtain ⟨hl, rfl⟩ := h
  rw [hx.str_inv]
  have hrun := run_bytes_of_string (P := P) w src dst e ⟨l.toArray⟩ hs hd he'
  have hI' := hI.drawn (w.drawn + 1)
  have hE' := Ext.drawn G w (w.drawn + 1) st.heap.length st.toks.length
  have hsz : (⟨l.toArray⟩ : ByteArray).size = l.length := by simp [ByteArray.size]
  have hfl : flat (ofBytes l) = ofBytes l := flat_scalar (fun e he => by obtain ⟨b, _, rfl⟩ := List.mem_map.1 he; rfl)
  have hgc : l.length ≤ grownCap w l.length 0 e := by
    unfold grownCap
    simp [Question.cut]
  obtain ⟨G', i1, e1, v1⟩ := newImm hI' (us := bytesRow ⟨l.toArray⟩ (grownCap w l.length 0 e)) (e := e) (fr := ((bytesRow ⟨l.toArray⟩ (grownCap w l.length 0 e)).size, (bytesRow ⟨l.toArray⟩ (grownCap w l.length 0 e)).size + 1)) (es := ofBytes l) (sz := 1) (tk := .any) (grownCap w l.length 0 e)
    (fun x hx => by obtain ⟨b, _, rfl⟩ := List.mem_map.1 hx; rfl) (by simpa [ofBytes] using hgc) (by rw [hfl]; simp [ofBytes, bytesRow]) (fun i c u hc hu => by
      rw [hfl] at hc
      have hlt : i < l.length := by simpa [ofBytes] using (List.getElem?_eq_some_iff.1 hc).1
      simp [ofBytes, hlt] at hc
      subst hc
      have : (bytesRow ⟨l.toArray⟩ (grownCap w l.length 0 e))[i]? = some (.int .u8 (l[i].toNat : Int)) := by
        simp [bytesRow, Array.getElem?_append, hlt]
      rw [this] at hu
      injection hu with hu
      subst hu
      exact ⟨.int _ _, rfl⟩) (.inl rfl)
  refine ⟨_, _, G', hrun, ?_, ?_, ?_⟩
  · rw [hsz]; exact i1
  · rw [hsz]; exact hE'.trans e1 (Nat.le_refl _) (Nat.le_refl _)
  · have : (ofBytes l).length = l.length := by simp [ofBytes]
    rw [this] at v1
    rw [hsz]
    exact v1

end Go.Am

/- The abstract machine's operations are sound: new variables, make, copy, append. -/
namespace Go.Am

theorem alloc_sound {P : Program} {G : Gh} {w : World} {st : St} {t : TypeId} {z : AV} (hI : Inv G w st) (hz : zeroA P t = some z) :
    SOk P G w st (Instr.alloc t true (.tuple #[])) (.ptr st.heap.length 0) { st with heap := st.heap ++ [.cells false z.cells] } := by
  obtain ⟨i, zv, q1, q2, q3, q4, q5⟩ := zeroA_sound (G := G) (w := w) hz
  obtain ⟨w', G', r1, r2, r3, r4⟩ := newVar_sound (P := P) (t := t) hI q3 q5 q4
  exact ⟨_, w', G', by simp [Instr.alloc, zeroValue, typeInfo, q1, q2, r1], r2, r3, r4⟩

theorem box_sound {P : Program} {G : Gh} {w : World} {st : St} {t : TypeId} {sz : Option Nat} {v : AV} {y : Value} (hI : Inv G w st) (hv : VRel G w v y) (hs : shaped sz v = true) :
    SOk P G w st (Instr.box t y) (.ptr st.heap.length 0) { st with heap := st.heap ++ [.cells false v.cells] } := by
  obtain ⟨n1, n2, _⟩ := shaped_facts hs
  obtain ⟨w', G', r1, r2, r3, r4⟩ := newVar_sound (P := P) (t := t) hI hv n1 n2
  exact ⟨_, w', G', by simp [Instr.box, r1], r2, r3, r4⟩

/-- A box that nobody writes. -/
theorem boxR_sound {P : Program} {G : Gh} {w : World} {st : St} {t : TypeId} {sz : Option Nat} {v : AV} {y : Value} (hI : Inv G w st) (hv : VRel G w v y) (hs : shaped sz v = true) :
    SOk P G w st (Instr.box t y) (.rptr v) st := by
  obtain ⟨n1, n2, _⟩ := shaped_facts hs
  obtain ⟨q1, q2⟩ := hv.cells n1 n2
  obtain ⟨i1, e1, r1⟩ := newImm' hI (us := y.cells) (e := t) (fr := (0, 0)) (es := [v]) (sz := v.cells.length) (tk := .any) 1 (by simp) (by simp) (by simp [flat]; omega) (fun i c u hc hu => q2 i c u (by simpa [flat] using hc) hu) (.inl rfl)
  refine ⟨.pointer (some ⟨w.heap.size, 0, none⟩), _, _, by simp [Instr.box, newVar, newRow], i1, e1, ?_⟩
  generalize hz : Value.slice (some ⟨w.heap.size, 0, none⟩) [v].length 1 = z at r1
  cases r1 with
  | sl _ _ b o cap sz cv h1 h2 h3 h4 h5 =>
    injection hz with hz1 hz2 hz3
    injection hz1 with hz1
    injection hz1 with hz1 hz4
    subst hz1; subst hz4
    exact .rptr v _ _ cv (fun j c hj => h3 j c (by simpa [flat] using hj)) (fun j c hj => h4 j c (by simpa [flat] using hj))

theorem replicate_flatten_get {α : Type} (z : List α) : ∀ (n i : Nat), i < n * z.length → ((List.replicate n z).flatten)[i]? = z[i % z.length]?
  | 0, i, h => by simp at h
  | n + 1, i, h => by
    simp only [List.replicate_succ, List.flatten_cons]
    rcases Nat.lt_or_ge i z.length with hlt | hge
    · rw [List.getElem?_append_left hlt, Nat.mod_eq_of_lt hlt]
    · rw [List.getElem?_append_right hge, replicate_flatten_get z n (i - z.length) (by rw [Nat.succ_mul] at h; omega), ← Nat.mod_eq_sub_mod hge]

theorem mkslice_sound {P : Program} {G : Gh} {w : World} {st st' : St} {t e : TypeId} {sz : Option Nat} {z x1 x2 v : AV} {y1 y2 : Value} (hI : Inv G w st) (hu : P.underlying t = some (.slice e)) (hs : szOf P e = some sz) (hz : zeroA P e = some z) (hb : smallBytes P e = true) (hzl : z.cells.length = sz.getD 1)
    (h : evW (.mkslice sz z.cells) [x1, x2] st = some (v, st')) (h1 : VRel G w x1 y1) (h2 : VRel G w x2 y2) : SOk P G w st (Instr.makeSlice t y1 y2) v st' := by
  cases x1 <;> cases x2 <;> simp only [evW] at h <;> first | (cases h; done) | skip
  rename_i k1 n k2 c
  split at h
  · rename_i hc
    injection h with h
    injection h with e1 e2
    subst e1; subst e2
    cases h1; cases h2
    obtain ⟨i, zv, q1, q2, q3, q4, q5⟩ := zeroA_sound (G := G) (w := w) hz
    obtain ⟨i', hi', hsz⟩ := szOf_size hs
    rw [q1] at hi'
    injection hi' with hi'
    subst hi'
    obtain ⟨_, _, hpos⟩ := szOf_run hs w
    have hbytes : 0 < i.bytes ∧ i.bytes ≤ 1024 := by
      simp only [smallBytes, q1, Bool.and_eq_true, decide_eq_true_eq] at hb
      exact hb
    obtain ⟨hc0, hc1, hc2⟩ := hc
    have hlim : c ≤ 2147483648 := hc2
    have hrun := run_make (P := P) w t e i zv hu q1 q2 k1 k2 n c hc0 hc1 (by
      have : (i.bytes : Int) * c ≤ 1024 * 2147483648 := Int.mul_le_mul (by omega) hlim (by omega) (by omega)
      omega) (by omega)
    obtain ⟨k1, k2⟩ := q3.cells q5 q4
    have hfl : ((List.replicate n.toNat z.cells).flatten).length = n.toNat * z.cells.length := by simp
    have hle : n.toNat * z.cells.length ≤ c.toNat * i.size := by
      rw [hzl, hsz]; exact Nat.mul_le_mul_right _ (by omega)
    obtain ⟨i1, e1⟩ := hI.allocMut (.cells (madeCells zv.cells (c.toNat * i.size)) e) (.cells false (List.replicate n.toNat z.cells).flatten) (fun G' w' h1 h2 h3 =>
      ⟨_, e, (0, 0), h2, by rw [hfl, size_madeCells]; exact hle, fun j v x hj hx => by
        have hlt : j < n.toNat * z.cells.length := by rw [← hfl]; exact (List.getElem?_eq_some_iff.1 hj).1
        rw [replicate_flatten_get _ _ _ hlt] at hj
        have hmod : j % z.cells.length < z.cells.length := Nat.mod_lt _ (by omega)
        have hmod' : j % zv.cells.size < zv.cells.size := by rw [← k1]; exact hmod
        have hx' : x = zv.cells[j % zv.cells.size]! := by
          have hj2 : j < c.toNat * i.size := by omega
          simp [madeCells, hj2] at hx
          exact hx.symm
        rw [hx']
        have := k2 (j % z.cells.length) v (zv.cells[j % zv.cells.size]!) hj (by rw [k1]; simp [hmod'])
        exact ⟨h1 _ _ this.1, this.2⟩, h3, fun o _ => by simp [World.frozen?, h2]⟩)
    refine ⟨_, _, _, hrun, i1, e1, .msl _ _ _ _ w.heap.size c.toNat (c.toNat * i.size) (by simp [Gh.addRho]) (by omega) (by simp only [bsize, alloc_new, size_madeCells]) (by rw [hsz]; omega)⟩
  · cases h

/-! What a builtin reads of its source. -/

theorem chunk_length (sz : Option Nat) : ∀ (n : Nat) (cs : List AV), (chunk sz n cs).length = n
  | 0, _ => rfl
  | n + 1, cs => by simp [chunk, chunk_length sz n]

theorem mkElem_cells {sz : Option Nat} {cs : List AV} (h : cs.length = sz.getD 1) (hone : sz = none → ∀ c ∈ cs, c.cells = [c]) : (mkElem sz cs).cells = cs := by
  cases sz with
  | some k => rfl
  | none =>
    match cs, h with
    | [c], _ => simp [mkElem, hone rfl c (by simp)]

theorem chunk_flat {sz : Option Nat} : ∀ (n : Nat) (cs : List AV), n * sz.getD 1 ≤ cs.length → (sz = none → ∀ c ∈ cs, c.cells = [c]) → (∀ e ∈ chunk sz n cs, e.cells.length = sz.getD 1) ∧ flat (chunk sz n cs) = cs.take (n * sz.getD 1)
  | 0, cs, _, _ => ⟨by simp [chunk], by simp [chunk, flat]⟩
  | n + 1, cs, h, hone => by
    have hs : (n + 1) * sz.getD 1 = n * sz.getD 1 + sz.getD 1 := Nat.succ_mul _ _
    obtain ⟨q1, q2⟩ := chunk_flat n (cs.drop (sz.getD 1)) (by simp; omega) (fun e c hc => hone e c (List.mem_of_mem_drop hc))
    have hm := mkElem_cells (sz := sz) (cs := cs.take (sz.getD 1)) (by simp; omega) (fun e c hc => hone e c (List.mem_of_mem_take hc))
    refine ⟨fun e he => ?_, ?_⟩
    · simp only [chunk, List.mem_cons] at he
      rcases he with rfl | he
      · rw [hm]; simp; omega
      · exact q1 e he
    · simp only [chunk, flat, List.flatMap_cons] at q2 ⊢
      rw [q2, hm, hs, Nat.add_comm, List.take_add]

theorem scalar_cells {G : Gh} {w : World} {c : AV} {u : Value} (h : VRel G w c u) (h1 : u.oneCell' = true) : c.cells = [c] := by
  cases h <;> first | rfl | (simp [Value.oneCell'] at h1)

theorem src_sound {P : Program} {G : Gh} {w : World} {st : St} {sz : Option Nat} {x : AV} {y : Value} {es : List AV} (hI : Inv G w st) (hx : VRel G w x y) (h : srcEs sz st x = some es) :
    (∀ e ∈ es, e.cells.length = sz.getD 1) ∧ ∃ news : List Value, (∀ w' : World, (Builtin.lenOf y).run P w' = .ok es.length w') ∧
      (∀ (w' : World) k, k ≤ es.length → (∀ a, w'.cell? a = w.cell? a) → (Builtin.firstCells (sz.getD 1) k y).run P w' = .ok (news.take (k * sz.getD 1)).toArray w') ∧ news.length = es.length * sz.getD 1 ∧
      (∀ (i : Nat) (c : AV) (u : Value), (flat es)[i]? = some c → news[i]? = some u → VRel G w c u ∧ u.oneCell' = true) := by
  have mem : ∀ (b o cap : Nat) (es : List AV), (∀ e ∈ es, e.cells.length = sz.getD 1) → CellsAt G w b o (flat es) → ∃ news : List Value, (∀ w' : World, (Builtin.lenOf (.slice (some ⟨b, o, none⟩) es.length cap)).run P w' = .ok es.length w') ∧
      (∀ (w' : World) k, k ≤ es.length → (∀ a, w'.cell? a = w.cell? a) → (Builtin.firstCells (sz.getD 1) k (.slice (some ⟨b, o, none⟩) es.length cap)).run P w' = .ok (news.take (k * sz.getD 1)).toArray w') ∧ news.length = es.length * sz.getD 1 ∧
      (∀ (i : Nat) (c : AV) (u : Value), (flat es)[i]? = some c → news[i]? = some u → VRel G w c u ∧ u.oneCell' = true) := by
    intro b o cap es hes hc
    obtain ⟨us, u1, u2, u3⟩ := hc.list
    rw [flat_length hes] at u1
    refine ⟨us, fun w' => rfl, fun w' k hk hw => ?_, u1, u3⟩
    have hle : k * sz.getD 1 ≤ us.length := by rw [u1]; exact Nat.mul_le_mul_right _ hk
    have := run_loadCells_at P (w := w') (b := b) (o := o) (us := us.take (k * sz.getD 1)) (fun j u hj => by
      rw [List.getElem?_take] at hj
      split at hj
      · rw [hw]; exact u2 j u hj
      · cases hj)
    rw [List.length_take, Nat.min_eq_left hle] at this
    simpa [Builtin.firstCells] using this
  cases x with
  | sl tk es' =>
    simp only [srcEs] at h
    split at h
    · rename_i hall
      injection h with h
      subst h
      have hes : ∀ e ∈ es', e.cells.length = sz.getD 1 := fun e he => by simp only [allSz, List.all_eq_true, beq_iff_eq] at hall; exact hall e he
      refine ⟨hes, ?_⟩
      cases hx with
      | slnil => exact ⟨[], fun w' => rfl, fun w' k _ _ => by simp [Builtin.firstCells], by simp, by simp [flat]⟩
      | slz => exact ⟨[], fun w' => rfl, fun w' k hk _ => by (have : k = 0 := by simpa using hk); subst this; simp [Builtin.firstCells, loadCells, loadCellsFrom], by simp, by simp [flat]⟩
      | sl _ _ b o cap sz' cv h1 h2 h3 h4 h5 => exact mem b o cap es' hes (fun j c hj => ⟨_, (h3 j c hj).2.1, h4 j c hj, (h3 j c hj).2.2⟩)
    · cases h
  | str l =>
    simp only [srcEs] at h
    split at h
    · rename_i hs
      subst hs
      injection h with h
      subst h
      rw [hx.str_inv]
      have hfl : flat (ofBytes l) = ofBytes l := flat_scalar (fun e he => by obtain ⟨b, _, rfl⟩ := List.mem_map.1 he; rfl)
      refine ⟨fun e he => by obtain ⟨b, _, rfl⟩ := List.mem_map.1 he; rfl, l.map (fun b => .int .u8 b.toNat), fun w' => by simp [Builtin.lenOf, ofBytes, ByteArray.size], fun w' k hk _ => ?_, by simp [ofBytes], fun i c u hc hu => ?_⟩
      · have hk' : k ≤ l.length := by simpa [ofBytes] using hk
        simp only [Builtin.firstCells, extract_bytes l 0 k hk', Sem.run_pure]
        congr 1
        apply Array.ext'
        simp [List.map_take]
      · rw [hfl] at hc
        simp only [ofBytes, List.getElem?_map] at hc hu
        cases hl : l[i]? with
        | none => simp [hl] at hc
        | some b => simp [hl] at hc hu; subst hc; subst hu; exact ⟨.int _ _, rfl⟩
    · cases h
  | msl l off len sz' =>
    simp only [srcEs] at h
    split at h
    · rename_i hs
      subst hs
      cases hl : st.heap[l]? with
      | none => simp [hl] at h
      | some blk =>
        rw [hl] at h
        cases blk with
        | cells fz vs =>
          simp only [] at h
          split at h
          · rename_i hle
            injection h with h
            subst h
            cases hx with
            | msl _ _ _ _ B cap z h1 h2 h3 h4 =>
              obtain ⟨B', p1, p2⟩ := hI.blk l _ hl
              rw [h1] at p1
              injection p1 with p1
              subst p1
              have hc := p2.cellsAt.drop off
              obtain ⟨q1, q2⟩ := chunk_flat (sz := sz) len (vs.drop off) (by simp; omega) (fun _ c hc' => by
                obtain ⟨i, hi, rfl⟩ := List.mem_iff_getElem.1 hc'
                obtain ⟨u, _, v1, v2⟩ := hc i _ (List.getElem?_eq_getElem hi)
                exact scalar_cells v1 v2)
              refine ⟨q1, ?_⟩
              have := mem B off cap (chunk sz len (vs.drop off)) q1 (by rw [q2]; simpa using hc.take _)
              rw [chunk_length] at this ⊢; exact this
          · cases h
        | _ => simp at h
    · cases h
  | _ => simp [srcEs] at h

end Go.Am

/- The abstract machine's operations are sound: slices of arrays, copy, append. -/
namespace Go.Am

theorem boundsOf_none {lo hi : Bool} {len : Nat} {bs : List AV} {a b : Nat} {m : Option Nat} (h : boundsOf lo hi false len bs = some (a, b, m)) : m = none := by
  have hb : ∀ (x1 x2 : Option AV), bounds x1 x2 none len = some (a, b, m) → m = none := by
    intro x1 x2 h
    unfold bounds at h
    cases h1 : bnd1 x2 len len with
    | none => simp [h1] at h
    | some hh =>
      cases h2 : bnd1 x1 0 hh with
      | none => simp [h1, h2] at h
      | some l => simp [h1, h2] at h; exact h.2.2.symm
  cases lo <;> cases hi <;> rcases bs with _ | ⟨x, _ | ⟨y, _ | ⟨z, r⟩⟩⟩ <;> simp [boundsOf, args3] at h <;> exact hb _ _ h

theorem slcArr_sound {P : Program} {G : Gh} {w : World} {st : St} {t e : TypeId} {n : Nat} {sz : Option Nat} {lo hi : Option Value} {x v : AV} {bs : List AV} {y : Value} (hI : Inv G w st) (hu : P.underlying t = some (.array n e)) (hs : szOf P e = some sz)
    (h : evR (.slcArr n sz lo.isSome hi.isSome) (x :: bs) st = some v) (hx : VRel G w x y) (hr : ListRel G w bs (lo.toList ++ hi.toList)) : SOk P G w st (Instr.sliceAt t y lo hi none) v st := by
  obtain ⟨_, hz, hpos⟩ := szOf_run hs w
  have hrun : ∀ b o a c (m : Option Nat), (Instr.sliceBounds false n n lo hi none).run P w = .ok (a, c, m.getD n) w → (Instr.sliceAt t (.pointer (some ⟨b, o, none⟩)) lo hi none).run P w =
      .ok (.slice (some (if m.getD n = a then ⟨b, o, none⟩ else ⟨b, o + a * sz.getD 1, none⟩)) (c - a) (m.getD n - a)) w := by
    intro b o a c m hb
    simp only [Instr.sliceAt, Sem.run_bind, run_underlying hu, Result.andThen, Instr.sureAddr, Sem.run_pure, hb, hz, addr_add]
  cases x with
  | ptr l off =>
    simp only [evR] at h
    cases hb : boundsOf lo.isSome hi.isSome false n bs with
    | none => simp [hb] at h
    | some r =>
      obtain ⟨a, b, m⟩ := r
      simp only [hb, Option.bind_some] at h
      obtain ⟨q1, q2, q3, q4⟩ := boundsOf_run (P := P) (w := w) (G := G) (lo := lo) (hi := hi) (mx := none) false (Nat.le_refl n) hb (by simpa using hr)
      cases hl : st.heap[l]? with
      | none => simp [hl] at h
      | some blk =>
        rw [hl] at h
        cases blk with
        | cells fz vs =>
          simp only [] at h
          split at h
          · rename_i hc
            obtain ⟨hle, ha⟩ := hc
            injection h with e1
            subst e1
            cases hx with
            | ptr _ _ B hB =>
              obtain ⟨B', p1, c, elem, fr, p2, p3, p4, p5⟩ := hI.blk l _ hl
              rw [hB] at p1
              injection p1 with p1
              subst p1
              have hm : m = none := boundsOf_none hb
              subst hm
              simp only [Option.getD_none] at q1
              have hr2 := hrun B off a b none (by simpa using q1)
              simp only [Option.getD_none] at hr2
              have hbs : bsize w B = some c.size := by simp only [bsize, p2]
              by_cases hna : n = a
              · have ha0 : a = 0 := by omega
                subst ha0
                rw [if_pos hna] at hr2
                refine SOk.same hI hr2 ?_
                simp only [Nat.zero_mul, Nat.add_zero]
                exact .msl _ _ _ _ B _ _ hB (by omega) hbs (by subst hna; simp; omega)
              · rw [if_neg hna] at hr2
                refine SOk.same hI hr2 ?_
                refine .msl _ _ _ _ B _ _ hB (by omega) hbs ?_
                have : a * sz.getD 1 + (n - a) * sz.getD 1 = n * sz.getD 1 := by rw [← Nat.add_mul]; congr 1; omega
                omega
          · cases h
        | _ => simp at h
  | rptr u =>
    cases u <;> simp only [evR] at h <;> first | (cases h; done) | skip
    rename_i cs
    cases hb : boundsOf lo.isSome hi.isSome false n bs with
    | none => simp [hb] at h
    | some r =>
      obtain ⟨a, b, m⟩ := r
      simp only [hb, Option.bind_some] at h
      split at h
      · rename_i hc
        injection h with e1
        subst e1
        obtain ⟨q1, q2, q3, q4⟩ := boundsOf_run (P := P) (w := w) (G := G) (lo := lo) (hi := hi) (mx := none) false (Nat.le_refl n) hb (by simpa using hr)
        obtain ⟨bb, o, rfl, h1, h2⟩ := rptr_full hx
        have hr2 := hrun bb o a b m q1
        simp only [AV.cells] at h1 h2
        obtain ⟨k1, k2⟩ := chunk_flat (sz := sz) n cs (by omega) (fun _ c hc' => by
          obtain ⟨i, hi, rfl⟩ := List.mem_iff_getElem.1 hc'
          obtain ⟨u, _, v1, v2⟩ := h1 i _ (List.getElem?_eq_getElem hi)
          exact scalar_cells v1 v2)
        have hfl : flat (chunk sz n cs) = cs := by rw [k2, ← hc, List.take_length]
        have hcv : ∃ cv : Nat → Value, ∀ (j : Nat) (c : AV), cs[j]? = some c → w.cell? ⟨bb, o + j, none⟩ = some (cv j) ∧ VRel G w c (cv j) ∧ (cv j).oneCell' = true := by
          refine ⟨fun j => (w.cell? ⟨bb, o + j, none⟩).getD undef, fun j c hj => ?_⟩
          obtain ⟨u, p1, p2, p3⟩ := h1 j c hj
          simp [p1, p2, p3]
        obtain ⟨cv, hcv⟩ := hcv
        have hmc : m.getD n ≤ n ∧ b ≤ m.getD n := by
          cases m with
          | none => simp; omega
          | some m' => have := q4 m' rfl; simp; omega
        refine SOk.same hI hr2 ?_
        have key := fun o' ho' => VRel.sl_sub (G := G) (w := w) (t' := .any) (es := chunk sz n cs) (b := bb) (o := o) (sz := sz.getD 1) (cv := cv) (a := a) (c := b) (cap' := m.getD n - a) (o' := o') k1
          (fun j c hj => by rw [hfl] at hj; exact ⟨h2 j c hj, (hcv j c hj).1, (hcv j c hj).2.2⟩) (fun j c hj => by rw [hfl] at hj; exact (hcv j c hj).2.1) q2 (by rw [chunk_length]; exact q3) (by omega) ho' trivial
        split
        · exact key o (.inl (by omega))
        · exact key _ (.inr rfl)
      · cases h
  | _ => simp [evR] at h


theorem normL_eq : ∀ (l : List AV), normL l = l.map AV.norm
  | [] => rfl
  | v :: l => by simp [normL, normL_eq l]

theorem norm_cells (v : AV) : v.norm.cells = normL v.cells := by
  cases v <;> simp [AV.norm, AV.cells, normL]

theorem flat_norm : ∀ (es : List AV), flat (normL es) = normL (flat es)
  | [] => rfl
  | e :: es => by
    have := flat_norm es
    simp only [flat, normL_eq] at this ⊢
    simp only [List.map_cons, List.flatMap_cons, this, norm_cells, normL_eq, List.map_append]

theorem VRel.norm {G : Gh} {w : World} {v : AV} {x : Value} (h : VRel G w v x) : VRel G w v.norm x := by
  induction h with
  | any v => exact .any v
  | bool b => exact .bool b
  | int k n => exact .int k n
  | str s => exact .str s
  | nilp => exact .nilp
  | ptr l off B hl => exact .ptr l off B hl
  | rptr v b o cv h1 h2 ih =>
    have key : ∀ (j : Nat) (c : AV), v.norm.cells[j]? = some c → ∃ c', v.cells[j]? = some c' ∧ c = c'.norm := fun j c hj => by
      rw [norm_cells, normL_eq, List.getElem?_map] at hj
      cases hc : v.cells[j]? with
      | none => simp [hc] at hj
      | some c' => simp [hc] at hj; exact ⟨c', rfl, hj.symm⟩
    exact .rptr v.norm b o cv (fun j c hj => by obtain ⟨c', q1, _⟩ := key j c hj; exact h1 j c' q1) (fun j c hj => by obtain ⟨c', q1, rfl⟩ := key j c hj; exact ih j c' q1)
  | slnil t ht => exact .slnil _ trivial
  | slz t a ht => exact .slz _ a trivial
  | sl t es b o cap sz cv h1 h2 h3 h4 h5 ih =>
    have key : ∀ (j : Nat) (c : AV), (flat (normL es))[j]? = some c → ∃ c', (flat es)[j]? = some c' ∧ c = c'.norm := fun j c hj => by
      rw [flat_norm, normL_eq, List.getElem?_map] at hj
      cases hc : (flat es)[j]? with
      | none => simp [hc] at hj
      | some c' => simp [hc] at hj; exact ⟨c', rfl, hj.symm⟩
    have hl : (normL es).length = es.length := by rw [normL_eq]; simp
    have := VRel.sl (G := G) (w := w) .any (normL es) b o cap sz cv (fun e he => by
      rw [normL_eq] at he
      obtain ⟨e', he', rfl⟩ := List.mem_map.1 he
      rw [norm_cells, normL_eq, List.length_map]
      exact h1 e' he') (by rw [hl]; exact h2) (fun j c hj => by obtain ⟨c', q1, _⟩ := key j c hj; exact h3 j c' q1) (fun j c hj => by obtain ⟨c', q1, rfl⟩ := key j c hj; exact ih j c' q1) trivial
    rw [hl] at this
    exact this
  | msl l off len sz B cap z h1 h2 h3 h4 => exact .msl l off len sz B cap z h1 h2 h3 h4
  | mapnil => exact .mapnil
  | map l B hl => exact .map l B hl
  | fn f xs ys vs us h1 h2 _ _ ih1 ih2 =>
    refine .fn f _ _ vs us (by rw [normL_eq]; simpa using h1) (by rw [normL_eq]; simpa using h2) (fun i c v hc hv => ?_) (fun i c v hc hv => ?_)
    · rw [normL_eq, List.getElem?_map] at hc
      cases hx : xs[i]? with
      | none => simp [hx] at hc
      | some c' => simp [hx] at hc; subst hc; exact ih1 i c' v hx hv
    · rw [normL_eq, List.getElem?_map] at hc
      cases hx : ys[i]? with
      | none => simp [hx] at hc
      | some c' => simp [hx] at hc; subst hc; exact ih2 i c' v hx hv
  | nilfn => exact .nilfn
  | ub b => exact .ub b
  | agg cs vs h1 h2 _ ih =>
    refine .agg _ vs (by rw [normL_eq]; simpa using h1) h2 (fun i c v hc hv => ?_)
    rw [normL_eq, List.getElem?_map] at hc
    cases hx : cs[i]? with
    | none => simp [hx] at hc
    | some c' => simp [hx] at hc; subst hc; exact ih i c' v hx hv
  | tup cs vs h1 _ ih =>
    refine .tup _ vs (by rw [normL_eq]; simpa using h1) (fun i c v hc hv => ?_)
    rw [normL_eq, List.getElem?_map] at hc
    cases hx : cs[i]? with
    | none => simp [hx] at hc
    | some c' => simp [hx] at hc; subst hc; exact ih i c' v hx hv

theorem copy_sound {P : Program} {G : Gh} {w : World} {st st' : St} {t tx ty e : TypeId} {sz : Option Nat} {x1 x2 v : AV} {y1 y2 : Value} (hI : Inv G w st) (hu : P.underlying t = some (.slice e)) (hs : szOf P e = some sz)
    (h : evW (.copy sz) [x1, x2] st = some (v, st')) (h1 : VRel G w x1 y1) (h2 : VRel G w x2 y2) : SOk P G w st (Builtin.copy_ #[t, tx] ty #[y1, y2]) v st' := by
  obtain ⟨_, hz, hpos⟩ := szOf_run hs w
  cases x1 with
  | msl l off len sz' =>
    simp only [evW] at h
    cases hsrc : srcEs sz st x2 with
    | none => simp [hsrc] at h
    | some es =>
      cases hl : st.heap[l]? with
      | none => simp [hsrc, hl] at h
      | some blk =>
        rw [hsrc, hl] at h
        cases blk with
        | cells fz vs =>
          cases fz with
          | true => simp at h
          | false =>
            simp only [] at h
            split at h
            · rename_i hc
              obtain ⟨rfl, hle⟩ := hc
              injection h with h
              injection h with e1 e2
              subst e1; subst e2
              obtain ⟨s1, news, s2, s3, s4, s5⟩ := src_sound (P := P) hI h2 hsrc
              cases h1 with
              | msl _ _ _ _ B cap z m1 m2 m3 m4 =>
                obtain ⟨B', p1, c, elem, fr, p2, p3, p4, p5, p6⟩ := hI.blk l _ hl
                rw [m1] at p1
                injection p1 with p1
                subst p1
                have hmin : min es.length len ≤ es.length := Nat.min_le_left _ _
                have hmin2 : min es.length len ≤ len := Nat.min_le_right _ _
                have hmul : min es.length len * sz.getD 1 ≤ len * sz.getD 1 := Nat.mul_le_mul_right _ hmin2
                have hmul2 : min es.length len * sz.getD 1 ≤ news.length := by rw [s4]; exact Nat.mul_le_mul_right _ hmin
                have hft : flat (es.take (min es.length len)) = (flat es).take (min es.length len * sz.getD 1) := flat_take s1 _
                have hfl : (flat (es.take (min es.length len))).length = min es.length len * sz.getD 1 := by
                  rw [hft, List.length_take, flat_length s1]
                  exact Nat.min_eq_left (Nat.mul_le_mul_right _ hmin)
                have hnl : (news.take (min es.length len * sz.getD 1)).length = min es.length len * sz.getD 1 := by rw [List.length_take]; exact Nat.min_eq_left hmul2
                have hrel : ∀ (i : Nat) (c : AV) (u : Value), (flat (es.take (min es.length len)))[i]? = some c → (news.take (min es.length len * sz.getD 1))[i]? = some u → VRel G w c u ∧ u.oneCell' = true := fun i c u hc hu => by
                  rw [hft, List.getElem?_take] at hc
                  rw [List.getElem?_take] at hu
                  split at hc
                  · rename_i hlt
                    rw [if_pos hlt] at hu
                    exact s5 i c u hc hu
                  · cases hc
                obtain ⟨i1, e1⟩ := Inv.storeMuts (G := G) (flat (es.take (min es.length len))) (news.take (min es.length len * sz.getD 1)) w st vs off hI hl m1 (by omega) (by rw [hfl, hnl]) hrel
                refine ⟨.int .i64 (min es.length len : Nat), _, G, ?_, i1, e1, .int _ _⟩
                have hst := run_storeCells_cells (P := P) B off (news.take (min es.length len * sz.getD 1)) 0 w (fun j hj => by simp only [World.cell?, p2]; simp; omega) (fun j hj => p6 _ (by omega))
                  (mem_oneCell (by rw [hfl, hnl]) hrel)
                simp only [Nat.add_zero] at hst
                have hmn : Nat.min es.length len = min es.length len := rfl
                simp [Builtin.copy_, run_underlying hu, s2, hz, s3 w _ hmin (fun _ => rfl), hst, goInt]
            · cases h
        | _ => simp at h
  | _ => simp [evW] at h

end Go.Am

/- The abstract machine's operations are sound: append. -/
namespace Go.Am

/-- What the laws on append ask of the element's type. -/
theorem elem_facts {P : Program} {e : TypeId} {sz : Option Nat} (hs : szOf P e = some sz) (hb : smallBytes P e = true) (hz : (P.info? e).any (fun i => i.zero.any fun z => z.cells.size == sz.getD 1) = true) :
    ∃ i z, P.info? e = some i ∧ i.zero = some z ∧ i.size = sz.getD 1 ∧ z.cells.size = sz.getD 1 ∧ 0 < i.bytes ∧ i.bytes ≤ 1024 := by
  obtain ⟨i, hi, hsz⟩ := szOf_size hs
  simp only [hi, Option.any_some] at hz
  cases hzz : i.zero with
  | none => simp [hzz] at hz
  | some z =>
    simp only [hzz, Option.any_some, beq_iff_eq] at hz
    simp only [smallBytes, hi, Bool.and_eq_true, decide_eq_true_eq] at hb
    exact ⟨i, z, hi, hzz, hsz, hz, hb.1, hb.2⟩

theorem srcOf {P : Program} {G : Gh} {w : World} {st : St} {sz : Option Nat} {x : AV} {y : Value} {es : List AV} {tx : TypeId} (hI : Inv G w st) (hx : VRel G w x y) (h : srcEs sz st x = some es) (hk : (∃ e', P.underlying tx = some (.slice e')) ∨ P.underlying tx = some .string) :
    (∀ e ∈ es, e.cells.length = sz.getD 1) ∧ ∃ news : List Value, Src P (sz.getD 1) tx y es.length news w ∧ (∀ (i : Nat) (c : AV) (u : Value), (flat es)[i]? = some c → news[i]? = some u → VRel G w c u ∧ u.oneCell' = true) := by
  obtain ⟨s1, news, s2, s3, s4, s5⟩ := src_sound (P := P) hI hx h
  have ht : news.take (es.length * sz.getD 1) = news := by rw [← s4, List.take_length]
  refine ⟨s1, news, ⟨hk, s2, ?_, ?_, s4, mem_oneCell (by rw [flat_length s1, s4]) s5⟩, s5⟩
  · have := s3 w es.length (Nat.le_refl _) (fun _ => rfl); rwa [ht] at this
  · have := s3 w.drew es.length (Nat.le_refl _) (fun _ => rfl); rwa [ht] at this

theorem flat_append (a b : List AV) : flat (a ++ b) = flat a ++ flat b := by simp [flat]

theorem normL_length (l : List AV) : (normL l).length = l.length := by rw [normL_eq]; simp

/-- Old cells, then new ones (as they are told behind). -/
theorem append_rel {G : Gh} {w : World} {es new : List AV} {olds news : List Value} (hl : olds.length = (flat es).length) (h1 : ∀ (i : Nat) (c : AV) (u : Value), (flat es)[i]? = some c → olds[i]? = some u → VRel G w c u ∧ u.oneCell' = true)
    (h2 : ∀ (i : Nat) (c : AV) (u : Value), (flat new)[i]? = some c → news[i]? = some u → VRel G w c u ∧ u.oneCell' = true) :
    ∀ (i : Nat) (c : AV) (u : Value), (flat (es ++ normL new))[i]? = some c → (olds ++ news)[i]? = some u → VRel G w c u ∧ u.oneCell' = true := by
  intro i c u hc hu
  rw [flat_append, flat_norm] at hc
  rcases Nat.lt_or_ge i (flat es).length with hlt | hge
  · rw [List.getElem?_append_left hlt] at hc
    rw [List.getElem?_append_left (by omega)] at hu
    exact h1 i c u hc hu
  · rw [List.getElem?_append_right hge, normL_eq, List.getElem?_map] at hc
    rw [List.getElem?_append_right (by omega), hl] at hu
    cases hx : (flat new)[i - (flat es).length]? with
    | none => simp [hx] at hc
    | some c' =>
      simp [hx] at hc
      subst hc
      obtain ⟨q1, q2⟩ := h2 _ c' u hx hu
      exact ⟨q1.norm, q2⟩

theorem cells_norm_len {new : List AV} {k : Nat} (h : ∀ e ∈ new, e.cells.length = k) : ∀ e ∈ normL new, e.cells.length = k := by
  intro e he
  rw [normL_eq] at he
  obtain ⟨e', he', rfl⟩ := List.mem_map.1 he
  rw [norm_cells, normL_length]
  exact h e' he'

theorem limit_fits {need old bytes : Nat} (h : old < need) (hn : need ≤ limit) (hb : bytes ≤ 1024) : Builtin.nextslicecap need old * bytes ≤ 281474976710656 := by
  refine growslice_fits h ?_
  have : need * bytes ≤ 2147483648 * 1024 := Nat.mul_le_mul hn hb
  omega

/-- An append that must make a new row. -/
theorem append_clip_sound {P : Program} {G : Gh} {w : World} {st : St} {t tx ty e : TypeId} {sz : Option Nat} {es new : List AV} {x : AV} {y1 y2 : Value} (hI : Inv G w st) (hu : P.underlying t = some (.slice e)) (hs : szOf P e = some sz) (hb : smallBytes P e = true) (hz : (P.info? e).any (fun i => i.zero.any fun z => z.cells.size == sz.getD 1) = true)
    (hk : (∃ e', P.underlying tx = some (.slice e')) ∨ P.underlying tx = some .string) (h1 : VRel G w (.sl .clip es) y1) (h2 : VRel G w x y2) (hsrc : srcEs sz st x = some new) (hall : allSz (sz.getD 1) es = true) (hlim : es.length + new.length ≤ limit) :
    SOk P G w st (Builtin.append_ #[t, tx] ty #[y1, y2]) (.sl .any (es ++ normL new)) st := by
  obtain ⟨i, z, hi, hzz, hsz, hzc, hb1, hb2⟩ := elem_facts hs hb hz
  obtain ⟨n1, news, hS, n2⟩ := srcOf (P := P) hI h2 hsrc hk
  have hold : srcEs sz st (.sl .clip es) = some es := by simp [srcEs, hall]
  obtain ⟨o1, olds, hO, o2⟩ := srcOf (P := P) (tx := t) hI h1 hold (.inl ⟨e, hu⟩)
  obtain ⟨a, cap, rfl, hle⟩ := h1.sl_len
  have hcap : cap = es.length := by
    cases h1 with
    | slnil => rfl
    | slz => rfl
    | sl _ _ _ _ _ _ _ _ _ _ _ ht => exact ht
  rw [← hsz] at hS hO
  by_cases h0 : new.length = 0
  · have hnew : new = [] := by simpa using h0
    subst hnew
    have hnews : news = [] := by have := hS.newsLen; simpa using this
    subst hnews
    have hrun := run_append_nothing (P := P) w t tx ty e i hu hi a es.length cap hle y2 hS
    refine SOk.same hI hrun ?_
    simp only [normL, List.append_nil]
    cases h1 with
    | slnil => exact .slnil _ trivial
    | slz _ a => exact .slz _ a trivial
    | sl _ _ b o cap sz' cv q1 q2 q3 q4 q5 => exact .sl .any es b o cap sz' cv q1 q2 q3 q4 trivial
  · subst hcap
    have hrun := run_append_grow_src (P := P) w t tx ty e i z hu hi hzz a es.length es.length olds hO.cellsD y2 new.length news hS (by omega) (by have : es.length + new.length ≤ 2147483648 := hlim; omega) (limit_fits (by omega) hlim hb2)
    have hI' := hI.drawn (w.drawn + 1)
    have hE' := Ext.drawn G w (w.drawn + 1) st.heap.length st.toks.length
    have hgc : es.length + new.length ≤ grownCap w (es.length + new.length) es.length e := by unfold grownCap; simp [Question.cut]
    have hol : olds.length = (flat es).length := by rw [hO.newsLen, flat_length o1, hsz]
    have hcells := cells_norm_len n1
    have hfl : (flat (es ++ normL new)).length = (olds ++ news).length := by
      rw [flat_append, List.length_append, List.length_append, hol, flat_length hcells, normL_length, hS.newsLen, hsz]
    obtain ⟨G', i1, e1, v1⟩ := newImm hI' (us := (olds ++ news).toArray ++ Builtin.zeroCells z.cells (grownCap w (es.length + new.length) es.length e - (es.length + new.length))) (e := e) (fr := (0, 0)) (es := es ++ normL new) (sz := sz.getD 1) (tk := .any)
      (grownCap w (es.length + new.length) es.length e) (fun c hc => (List.mem_append.1 hc).elim (o1 c) (hcells c)) (by rw [List.length_append, normL_length]; exact hgc) (by rw [hfl]; simp) (fun j c u hc hu => by
        have hlt : j < (olds ++ news).length := by rw [← hfl]; exact (List.getElem?_eq_some_iff.1 hc).1
        rw [Array.getElem?_append_left (by simpa using hlt)] at hu
        have := append_rel (G := G) (w := w) hol o2 n2 j c u hc (by simpa using hu)
        exact ⟨this.1.inv hI hE', this.2⟩) (.inl rfl)
    refine ⟨_, _, G', hrun, i1, hE'.trans e1 (Nat.le_refl _) (Nat.le_refl _), ?_⟩
    rw [List.length_append, normL_length] at v1
    exact v1


theorem VRel.retok {G : Gh} {w : World} {t t' : Tok} {es : List AV} {b o len cap : Nat} (h : VRel G w (.sl t es) (.slice (some ⟨b, o, none⟩) len cap)) (ht : ∀ sz, (∀ e ∈ es, e.cells.length = sz) → TokOk G w t' es.length b o cap sz) :
    VRel G w (.sl t' es) (.slice (some ⟨b, o, none⟩) len cap) := by
  cases h with
  | sl _ _ _ _ _ sz cv h1 h2 h3 h4 h5 => exact .sl t' es b o cap sz cv h1 h2 h3 h4 (ht sz h1)
  | slz =>
    refine .slz t' _ ?_
    have := ht 0 (by simp)
    cases t' with
    | own k => obtain ⟨n, s, h1, _⟩ := this; exact ⟨_, h1⟩
    | _ => trivial

/-- A new row for a slice that has a token. -/
theorem ownNew {G : Gh} {w : World} {st : St} (hI : Inv G w st) {us : Array Value} {e : TypeId} {es : List AV} {sz k n0 : Nat} (cap : Nat) (h1 : ∀ x ∈ es, x.cells.length = sz) (hcap : es.length ≤ cap) (hsize : us.size = cap * sz)
    (hc : ∀ (i : Nat) (c : AV) (u : Value), (flat es)[i]? = some c → us[i]? = some u → VRel G w c u ∧ u.oneCell' = true) (htok : st.toks[k]? = some (n0, sz)) (hn : n0 < es.length) :
    ∃ G', Inv G' (w.alloc (.cells us e)) { st with toks := st.toks.set k (es.length, sz) } ∧ Ext G w G' (w.alloc (.cells us e)) st.heap.length st.toks.length ∧ VRel G' (w.alloc (.cells us e)) (.sl (.own k) es) (.slice (some ⟨w.heap.size, 0, none⟩) es.length cap) := by
  have hfl : (flat es).length = es.length * sz := flat_length h1
  have hle : es.length * sz ≤ cap * sz := Nat.mul_le_mul_right _ hcap
  obtain ⟨i1, e1, v1⟩ := newImm' hI (us := us) (e := e) (fr := (0, 0)) (es := es) (sz := sz) (tk := .any) cap h1 hcap (by omega) hc (.inl rfl)
  have hbs : bsize (w.alloc (.cells us e)) w.heap.size = some us.size := by simp only [bsize, alloc_new]
  have hnf : ∀ o, (w.alloc (.cells us e)).frozen? ⟨w.heap.size, o, none⟩ = false := fun o => by simp only [World.frozen?, alloc_new]; simp
  obtain ⟨i2, e2⟩ := i1.reTok (k := k) (n := n0) (n' := es.length) (sz := sz) (some ⟨w.heap.size, es.length * sz⟩) htok hn (fun i' hi' => by
    injection hi' with hi'
    subst hi'
    refine ⟨hI.bsz, ⟨us.size, hbs, by simp only []; omega, fun o _ _ => hnf o⟩, fun o ho hi => ?_, fun l hl => ?_, fun j i2 hj hi2 => ?_⟩
    · rcases hi with hi | ⟨_, hi⟩
      · have := hI.imm_lt hi; simp at this
      · simp only [] at ho; omega
    · have := (hI.img l _ hl).2; simp at this
    · obtain ⟨_, _, ⟨z, a3, _⟩, _⟩ := hI.tdom j i2 hi2
      have := bsize_lt a3
      simp only []; omega)
  refine ⟨_, i2, e1.trans e2 (Nat.le_refl _) (Nat.le_refl _), ?_⟩
  refine (v1.inv i1 e2).retok (fun sz' hsz' => ?_)
  have hne : es ≠ [] := fun e => by subst e; simp at hn
  obtain ⟨e0, he0⟩ := List.exists_mem_of_ne_nil _ hne
  have hss : sz' = sz := by rw [← hsz' e0 he0, h1 e0 he0]
  subst hss
  exact ⟨es.length, sz', by simp [Gh.setTok], Nat.le_refl _, fun _ => .inr ⟨rfl, rfl, by simp [Gh.setTok], us.size, hbs, by omega⟩⟩

/-- New elements in a token's spare room. -/
theorem ownSpare {G : Gh} {w : World} {st : St} (hI : Inv G w st) {es new : List AV} {news : List Value} {sz k b cap z : Nat} (h1 : VRel G w (.sl (.own k) es) (.slice (some ⟨b, 0, none⟩) es.length cap)) (hes : ∀ x ∈ es, x.cells.length = sz) (hnew : ∀ x ∈ new, x.cells.length = sz)
    (hroom : es.length + new.length ≤ cap) (hnl : news.length = new.length * sz) (hc : ∀ (i : Nat) (c : AV) (u : Value), (flat new)[i]? = some c → news[i]? = some u → VRel G w c u ∧ u.oneCell' = true) (htok : st.toks[k]? = some (es.length, sz)) (hpos : 0 < new.length)
    (htau : G.tau k = some ⟨b, es.length * sz⟩) (hz : bsize w b = some z) (hcz : cap * sz ≤ z) :
    ∃ G', Inv G' (w.setCells b (es.length * sz) news) { st with toks := st.toks.set k (es.length + new.length, sz) } ∧ Ext G w G' (w.setCells b (es.length * sz) news) st.heap.length st.toks.length ∧
      VRel G' (w.setCells b (es.length * sz) news) (.sl (.own k) (es ++ new)) (.slice (some ⟨b, 0, none⟩) (es.length + new.length) cap) ∧
      (∀ j, j < news.length → (w.cell? ⟨b, es.length * sz + j, none⟩).isSome = true) ∧ (∀ j, j < news.length → w.frozen? ⟨b, es.length * sz + j, none⟩ = false) := by
  obtain ⟨t1, t2, ⟨z', t3, t4, t5⟩, t6, t7⟩ := hI.tdom k _ htau
  simp only [] at t2 t3 t4 t5 t6 t7
  rw [hz] at t3
  injection t3 with t3
  subst t3
  have hsum : es.length * sz + new.length * sz = (es.length + new.length) * sz := (Nat.add_mul _ _ _).symm
  have hle : (es.length + new.length) * sz ≤ cap * sz := Nat.mul_le_mul_right _ hroom
  obtain ⟨c, elem, fr, hb, hcz'⟩ : ∃ c elem fr, w.heap[b]? = some (.cells c elem fr) ∧ c.size = z := by
    unfold bsize at hz
    split at hz
    · rename_i c e f hh
      injection hz with hz
      exact ⟨c, e, f, hh, hz⟩
    · cases hz
  have hcellw : ∀ j, j < news.length → ∃ v, w.cell? ⟨b, es.length * sz + j, none⟩ = some v := fun j hj => by
    have : es.length * sz + j < c.size := by omega
    exact ⟨c[es.length * sz + j], by simp only [World.cell?, hb]; simp [this]⟩
  obtain ⟨i1, e1⟩ := Inv.storeSpares htau news w st (es.length * sz) hI (Nat.le_refl _)
  have hbs : bsize (w.setCells b (es.length * sz) news) b = some z := e1.size _ _ hz
  have hfr : ∀ (us : List Value) (w : World) (o o' : Nat), (w.setCells b o us).frozen? ⟨b, o', none⟩ = w.frozen? ⟨b, o', none⟩ := by
    intro us
    induction us with
    | nil => intros; rfl
    | cons u us ih =>
      intro w o o'
      show ((w.setCell ⟨b, o, none⟩ u).setCells b (o + 1) us).frozen? _ = _
      rw [ih, setCell_frozen]
  obtain ⟨i2, e2⟩ := i1.reTok (k := k) (n := es.length) (n' := es.length + new.length) (sz := sz) (some ⟨b, (es.length + new.length) * sz⟩) htok (by omega) (fun i' hi' => by
    injection hi' with hi'
    subst hi'
    refine ⟨t2, ⟨z, hbs, by simp only []; omega, fun o ho hz => by rw [hfr]; exact t5 o (by simp only [] at ho; omega) hz⟩, fun o ho => t6 o (by simp only [] at ho; omega), t7, fun j i2 hj hi2 e => hj (hI.tinj j k i2 _ hi2 htau e)⟩)
  have i3 := i2.addImm (fun b' o => b' = b ∧ es.length * sz ≤ o ∧ o < (es.length + new.length) * sz) (fun b' o ⟨hb', ho, ho'⟩ => by
      subst hb'
      have := setCells_get b' news w (es.length * sz) hcellw (o - es.length * sz) (by omega)
      rw [show es.length * sz + (o - es.length * sz) = o by omega] at this
      exact ⟨_, this⟩) (fun b' o ⟨hb', _⟩ l hl => by subst hb'; exact t7 l hl) (fun b' o ⟨hb', ho, ho'⟩ j i hj e => by
      subst hb'
      by_cases ej : j = k
      · subst ej
        simp [Gh.setTok] at hj
        subst hj
        exact ho'
      · simp only [Gh.setTok, if_neg ej] at hj
        exact absurd (hI.tinj j k i _ hj htau e) ej) (fun b' o hb => by rw [hb.1]; exact t2)
  have e3 := Ext.addImm (G.setTok k (es.length + new.length, sz) (some ⟨b, (es.length + new.length) * sz⟩)) (w.setCells b (es.length * sz) news) (fun b' o => b' = b ∧ es.length * sz ≤ o ∧ o < (es.length + new.length) * sz) st.heap.length st.toks.length (fun b' o hb => by rw [hb.1]; exact t2)
  have eAll := (e1.trans e2 (Nat.le_refl _) (Nat.le_refl _)).trans e3 (Nat.le_refl _) (Nat.le_refl _)
  refine ⟨_, i3, eAll, ?_, fun j hj => by obtain ⟨v, hv⟩ := hcellw j hj; simp [hv], fun j hj => t5 _ (by omega) (by omega)⟩
  have hfe : (flat es).length = es.length * sz := flat_length hes
  have hold := h1.inv hI eAll
  cases hold with
  | slz => simp only [List.length_nil] at hroom; omega
  | sl _ _ _ _ _ sz' cv g1 g2 g3 g4 g5 =>
    have hl : (es ++ new).length = es.length + new.length := by simp
    have key : ∀ (j : Nat) (c : AV), (flat (es ++ new))[j]? = some c → es.length * sz ≤ j → ∃ (hj : j - es.length * sz < news.length), (flat new)[j - es.length * sz]? = some c := fun j c hj hge => by
      rw [flat_append, List.getElem?_append_right (by omega), hfe] at hj
      have := (List.getElem?_eq_some_iff.1 hj).1
      rw [flat_length hnew] at this
      exact ⟨by omega, hj⟩
    have := VRel.sl (G := (G.setTok k (es.length + new.length, sz) (some ⟨b, (es.length + new.length) * sz⟩)).addImm (fun b' o => b' = b ∧ es.length * sz ≤ o ∧ o < (es.length + new.length) * sz)) (w := w.setCells b (es.length * sz) news) (.own k) (es ++ new) b 0 cap sz (fun j => if j < es.length * sz then cv j else news.getD (j - es.length * sz) undef)
      (fun x hx => (List.mem_append.1 hx).elim (hes x) (hnew x)) (by rw [hl]; exact hroom) (fun j c hj => ?_) (fun j c hj => ?_) ?_
    · rw [hl] at this; exact this
    · simp only [Nat.zero_add]
      rcases Nat.lt_or_ge j (es.length * sz) with hlt | hge
      · rw [flat_append, List.getElem?_append_left (by omega)] at hj
        simp only [if_pos hlt]
        have := g3 j c hj
        simpa using this
      · obtain ⟨hj1, hj2⟩ := key j c hj hge
        simp only [if_neg (Nat.not_lt.2 hge)]
        have hget := setCells_get b news w (es.length * sz) hcellw (j - es.length * sz) hj1
        rw [show es.length * sz + (j - es.length * sz) = j by omega] at hget
        have hr := hc _ c news[j - es.length * sz] hj2 (List.getElem?_eq_getElem hj1)
        refine ⟨.inr ⟨rfl, hge, by omega⟩, ?_, ?_⟩
        · rw [hget]; simp [List.getD, hj1]
        · simpa [List.getD, hj1] using hr.2
    · rcases Nat.lt_or_ge j (es.length * sz) with hlt | hge
      · rw [flat_append, List.getElem?_append_left (by omega)] at hj
        simp only [if_pos hlt]
        exact g4 j c hj
      · obtain ⟨hj1, hj2⟩ := key j c hj hge
        simp only [if_neg (Nat.not_lt.2 hge)]
        have hr := hc _ c news[j - es.length * sz] hj2 (List.getElem?_eq_getElem hj1)
        have := hr.1.inv hI eAll
        simpa [List.getD, hj1] using this
    · exact ⟨es.length + new.length, sz, by simp [Gh.addImm, Gh.setTok], by rw [hl]; exact Nat.le_refl _, fun _ => .inr ⟨rfl, rfl, by rw [hl]; simp [Gh.addImm, Gh.setTok], z, hbs, hcz⟩⟩

end Go.Am

/- The abstract machine's operations are sound: append, whole. -/
namespace Go.Am

/-- An append to a slice whose spare room is nobody else's. -/
theorem append_own_sound {P : Program} {G : Gh} {w : World} {st : St} {t tx ty e : TypeId} {sz : Option Nat} {es new : List AV} {k : Nat} {y1 y2 : Value} {news : List Value} (hI : Inv G w st) (hu : P.underlying t = some (.slice e)) (hs : szOf P e = some sz) (hb : smallBytes P e = true) (hz : (P.info? e).any (fun i => i.zero.any fun z => z.cells.size == sz.getD 1) = true)
    (h1 : VRel G w (.sl (.own k) es) y1) (n1 : ∀ e ∈ new, e.cells.length = sz.getD 1) (hS : Src P (sz.getD 1) tx y2 new.length news w) (n2 : ∀ (i : Nat) (c : AV) (u : Value), (flat new)[i]? = some c → news[i]? = some u → VRel G w c u ∧ u.oneCell' = true)
    (hall : allSz (sz.getD 1) es = true) (hlim : es.length + new.length ≤ limit) (htok : st.toks[k]? = some (es.length, sz.getD 1)) :
    SOk P G w st (Builtin.append_ #[t, tx] ty #[y1, y2]) (.sl (.own k) (es ++ normL new)) { st with toks := st.toks.set k (es.length + new.length, sz.getD 1) } := by
  obtain ⟨i, z, hi, hzz, hsz, hzc, hb1, hb2⟩ := elem_facts hs hb hz
  have hold : srcEs sz st (.sl (.own k) es) = some es := by simp [srcEs, hall]
  obtain ⟨o1, olds, hO, o2⟩ := srcOf (P := P) (tx := t) hI h1 hold (.inl ⟨e, hu⟩)
  obtain ⟨a, cap, rfl, hle⟩ := h1.sl_len
  have hnl : news.length = new.length * sz.getD 1 := hS.newsLen
  rw [← hsz] at hS hO
  have hol : olds.length = (flat es).length := by rw [hO.newsLen, flat_length o1, hsz]
  have hcells := cells_norm_len n1
  have hall' : ∀ c ∈ es ++ normL new, c.cells.length = sz.getD 1 := fun c hc => (List.mem_append.1 hc).elim (o1 c) (hcells c)
  have hlen' : (es ++ normL new).length = es.length + new.length := by rw [List.length_append, normL_length]
  have hn2 : ∀ (i : Nat) (c : AV) (u : Value), (flat (normL new))[i]? = some c → news[i]? = some u → VRel G w c u ∧ u.oneCell' = true := fun i c u hc hu => by
    rw [flat_norm, normL_eq, List.getElem?_map] at hc
    cases hx : (flat new)[i]? with
    | none => simp [hx] at hc
    | some c' => simp [hx] at hc; subst hc; obtain ⟨q1, q2⟩ := n2 i c' u hx hu; exact ⟨q1.norm, q2⟩
  by_cases h0 : new.length = 0
  · have hnew : new = [] := by simpa using h0
    subst hnew
    have hnews : news = [] := by simpa using hnl
    subst hnews
    have hrun := run_append_nothing (P := P) w t tx ty e i hu hi a es.length cap hle y2 hS
    have hset : st.toks.set k (es.length + ([] : List AV).length, sz.getD 1) = st.toks := by
      apply List.ext_getElem?
      intro j
      by_cases ej : k = j
      · subst ej; rw [List.getElem?_set, if_pos rfl, if_pos (List.getElem?_eq_some_iff.1 htok).1, htok]; rfl
      · rw [List.getElem?_set, if_neg ej]
    simp only [normL, List.append_nil]
    rw [hset]
    exact SOk.same hI hrun h1
  · rcases Nat.lt_or_ge cap (es.length + new.length) with hg | hroom
    · have hrun := run_append_grow_src (P := P) w t tx ty e i z hu hi hzz a es.length cap olds hO.cellsD y2 new.length news hS hg (by have : es.length + new.length ≤ 2147483648 := hlim; omega) (limit_fits hg hlim hb2)
      have hI' := hI.drawn (w.drawn + 1)
      have hE' := Ext.drawn G w (w.drawn + 1) st.heap.length st.toks.length
      have hgc : es.length + new.length ≤ grownCap w (es.length + new.length) cap e := by unfold grownCap; simp [Question.cut]
      obtain ⟨G', i1, e1, v1⟩ := ownNew hI' (us := (olds ++ news).toArray ++ Builtin.zeroCells z.cells (grownCap w (es.length + new.length) cap e - (es.length + new.length))) (e := e) (es := es ++ normL new) (sz := sz.getD 1) (k := k) (n0 := es.length)
        (grownCap w (es.length + new.length) cap e) hall' (by rw [hlen']; exact hgc) (by
          simp only [Array.size_append, List.size_toArray, List.length_append, size_zeroCells, hzc, hnl, hol, flat_length o1]
          rw [← Nat.add_mul, ← Nat.add_mul, Nat.add_sub_cancel' hgc]) (fun j c u hc hu => by
          have hlt : j < (olds ++ news).length := by
            have := (List.getElem?_eq_some_iff.1 hc).1
            rw [flat_append, List.length_append, flat_length hcells, normL_length, ← hnl, ← hol] at this
            simpa using this
          rw [Array.getElem?_append_left (by simpa using hlt)] at hu
          have := append_rel (G := G) (w := w) hol o2 n2 j c u hc (by simpa using hu)
          exact ⟨this.1.inv hI hE', this.2⟩) htok (by rw [hlen']; omega)
      rw [hlen'] at i1 v1
      exact ⟨_, _, G', hrun, i1, hE'.trans e1 (Nat.le_refl _) (Nat.le_refl _), v1⟩
    · -- there is room: the spare cells are the token's
      have hspare : ∃ b, a = some ⟨b, 0, none⟩ ∧ G.tau k = some ⟨b, es.length * sz.getD 1⟩ ∧ ∃ z, bsize w b = some z ∧ cap * sz.getD 1 ≤ z := by
        cases h1 with
        | slnil => simp only [List.length_nil] at hroom; omega
        | slz => simp only [List.length_nil] at hroom; omega
        | sl _ _ b o _ sz' cv q1 q2 q3 q4 q5 =>
          obtain ⟨n, s, r1, r2, r3⟩ := q5
          rw [hI.tl, htok] at r1
          injection r1 with r1
          injection r1 with r1 r1'
          subst r1; subst r1'
          rcases r3 rfl with r3 | ⟨r3, r4, r5, z, r6, r7⟩
          · omega
          · subst r3; subst r4
            exact ⟨b, rfl, r5, z, r6, r7⟩
      obtain ⟨b, rfl, htau, zz, hbz, hcz⟩ := hspare
      have hln : (normL new).length = new.length := normL_length new
      obtain ⟨G', i1, e1, v1, c1, f1⟩ := ownSpare hI h1 o1 hcells (by rw [hln]; exact hroom) (by rw [hln]; exact hnl) hn2 htok (by rw [hln]; omega) htau hbz hcz
      rw [hln] at i1 v1
      have hrun := run_append_room_src (P := P) w t tx ty e i hu hi b 0 es.length cap y2 new.length news hS hroom (by simpa [hsz] using c1) (by simpa [hsz] using f1)
      simp only [Nat.zero_add, hsz] at hrun
      exact ⟨_, _, G', hrun, i1, e1, v1⟩

/-- A block that was made, and that is appended to: its cells turn no more, its spare room is a token's. -/
theorem mslOwn {G : Gh} {w : World} {st : St} (hI : Inv G w st) {l len : Nat} {sz : Option Nat} {vs : List AV} {y : Value} (hpos : 0 < sz.getD 1) (h1 : VRel G w (.msl l 0 len sz) y) (hl : st.heap[l]? = some (.cells false vs)) (hlen : vs.length = len * sz.getD 1) :
    ∃ G', Inv G' w { heap := st.heap.set l (.cells true vs), toks := st.toks ++ [(len, sz.getD 1)] } ∧ Ext G w G' w st.heap.length st.toks.length ∧ VRel G' w (.sl (.own st.toks.length) (chunk sz len vs)) y ∧
      (∀ e ∈ chunk sz len vs, e.cells.length = sz.getD 1) := by
  cases h1 with
  | msl _ _ _ _ B cap z m1 m2 m3 m4 =>
    obtain ⟨B', p1, p2⟩ := hI.blk l _ hl
    rw [m1] at p1
    injection p1 with p1
    subst p1
    have hca := p2.cellsAt
    obtain ⟨c, elem, fr, p2, p3, p4, p5, p6⟩ := p2
    have hbz : bsize w B = some c.size := by simp only [bsize, p2]
    obtain ⟨k1, k2⟩ := chunk_flat (sz := sz) len vs (by omega) (fun _ x hx => by
      obtain ⟨i, hi, rfl⟩ := List.mem_iff_getElem.1 hx
      obtain ⟨u, _, v1, v2⟩ := hca i _ (List.getElem?_eq_getElem hi)
      exact scalar_cells v1 v2)
    have hfl : flat (chunk sz len vs) = vs := by rw [k2, ← hlen, List.take_length]
    obtain ⟨i1, e1⟩ := hI.freezeBlk hl m1
    have hlt := (List.getElem?_eq_some_iff.1 hl).1
    have hn : (G.addImm fun b o => b = B ∧ o < vs.length).tl st.toks.length = none := by show G.tl _ = none; rw [hI.tl]; simp
    have e2 : Ext (G.addImm fun b o => b = B ∧ o < vs.length) w ((G.addImm fun b o => b = B ∧ o < vs.length).setTok st.toks.length (len, sz.getD 1) (some ⟨B, len * sz.getD 1⟩)) w st.heap.length st.toks.length :=
      Ext.setTok _ w (p0 := (len, sz.getD 1)) _ _ _ (.inr (Nat.le_refl _)) (fun e => by rw [hn] at e; cases e)
    have i2 := i1.setTok (k := st.toks.length) (p := (len, sz.getD 1)) (i := some ⟨B, len * sz.getD 1⟩) (toks := st.toks ++ [(len, sz.getD 1)]) (by simpa using e2) (by simp) (fun j => by
        by_cases e : j = st.toks.length
        · subst e; simp
        · rw [if_neg e]
          simp only []
          rcases Nat.lt_or_ge j st.toks.length with hl | hl
          · rw [List.getElem?_append_left hl]
          · rw [List.getElem?_append_right hl, List.getElem?_eq_none (by simp; omega), List.getElem?_eq_none hl]) (fun i' hi' => by
        injection hi' with hi'
        subst hi'
        refine ⟨(hI.img l B m1).1, ⟨c.size, hbz, by simp only []; omega, fun o _ ho => p6 o ho⟩, fun o ho hi => ?_, fun l' hl' => ?_, fun j i2 hj hi2 e => ?_⟩
        · rcases hi with hi | ⟨_, hi⟩
          · exact p5 o hi
          · simp only [] at ho; omega
        · have : l' = l := hI.inj _ _ _ hl' m1
          subst this
          exact ⟨vs, by simp [hlt]⟩
        · obtain ⟨_, _, _, _, a7⟩ := hI.tdom j i2 hi2
          obtain ⟨vs', hvs'⟩ := a7 l (by rw [e]; exact m1)
          rw [hl] at hvs'
          injection hvs' with e3
          injection e3 with e4
          exact absurd e4 (by decide))
    have eAll := e1.trans e2 (Nat.le_refl _) (Nat.le_refl _)
    refine ⟨_, i2, eAll, ?_, k1⟩
    have hvl : (chunk sz len vs).length = len := chunk_length _ _ _
    have := VRel.sl (G := (G.addImm fun b o => b = B ∧ o < vs.length).setTok st.toks.length (len, sz.getD 1) (some ⟨B, len * sz.getD 1⟩)) (w := w) (.own st.toks.length) (chunk sz len vs) B 0 cap (sz.getD 1) (fun j => (w.cell? ⟨B, j, none⟩).getD undef) k1 (by rw [hvl]; exact m2)
      (fun j x hj => by
        rw [hfl] at hj
        obtain ⟨u, u1, u2, u3⟩ := hca j x hj
        rw [Nat.zero_add] at u1 ⊢
        exact ⟨.inr ⟨rfl, (List.getElem?_eq_some_iff.1 hj).1⟩, by simp [u1], by simpa [u1] using u3⟩)
      (fun j x hj => by
        rw [hfl] at hj
        obtain ⟨u, u1, u2, u3⟩ := hca j x hj
        rw [Nat.zero_add] at u1
        simpa [u1] using u2.inv hI eAll)
      ⟨len, sz.getD 1, by simp [Gh.setTok], by rw [hvl]; exact Nat.le_refl _, fun _ => .inr ⟨rfl, rfl, by rw [hvl]; simp [Gh.setTok], z, m3, by simpa using m4⟩⟩
    rw [hvl] at this
    exact this

theorem set_append_last {α : Type} (l : List α) (a b : α) : (l ++ [a]).set l.length b = l ++ [b] := by
  rw [List.set_append_right _ _ (Nat.le_refl _)]
  simp

/-- A slice whose capacity is its length takes a token. -/
theorem clipOwn {G : Gh} {w : World} {st : St} (hI : Inv G w st) {es : List AV} {y : Value} (sz : Nat) (h : VRel G w (.sl .clip es) y) :
    ∃ G', Inv G' w { st with toks := st.toks ++ [(es.length, sz)] } ∧ Ext G w G' w st.heap.length st.toks.length ∧ VRel G' w (.sl (.own st.toks.length) es) y := by
  obtain ⟨i1, e1⟩ := hI.newTok (es.length, sz)
  refine ⟨_, i1, e1, ?_⟩
  have h' := h.inv hI e1
  cases h' with
  | slnil => exact .slnil _ ⟨_, by simp [Gh.setTok]; rfl⟩
  | slz _ ad => exact .slz _ ad ⟨_, by simp [Gh.setTok]; rfl⟩
  | sl _ _ b o cap sz' cv q1 q2 q3 q4 q5 => exact .sl _ es b o cap sz' cv q1 q2 q3 q4 ⟨es.length, sz, by simp [Gh.setTok], Nat.le_refl _, fun _ => .inl q5⟩

theorem append_sound {P : Program} {G : Gh} {w : World} {st st' : St} {t tx ty e : TypeId} {sz : Option Nat} {x1 x2 v : AV} {y1 y2 : Value} (hI : Inv G w st) (hu : P.underlying t = some (.slice e)) (hs : szOf P e = some sz) (hb : smallBytes P e = true) (hz : (P.info? e).any (fun i => i.zero.any fun z => z.cells.size == sz.getD 1) = true)
    (hk : (∃ e', P.underlying tx = some (.slice e')) ∨ P.underlying tx = some .string) (h : evT (.append sz) [x1, x2] st = some (v, st')) (h1 : VRel G w x1 y1) (h2 : VRel G w x2 y2) :
    SOk P G w st (Builtin.append_ #[t, tx] ty #[y1, y2]) v st' := by
  cases x1 with
  | sl tk es =>
    simp only [evT] at h
    cases hsrc : srcEs sz st x2 with
    | none => simp [hsrc] at h
    | some new =>
      rw [hsrc] at h
      simp only [] at h
      split at h
      · rename_i hc
        simp only [Bool.and_eq_true, decide_eq_true_eq] at hc
        cases tk with
        | any => simp at h
        | clip =>
          simp only [] at h
          injection h with h
          injection h with e1 e2
          subst e1; subst e2
          obtain ⟨G', i1, e1, v1⟩ := clipOwn hI (sz.getD 1) h1
          obtain ⟨n1, news, hS, n2⟩ := srcOf (P := P) hI h2 hsrc hk
          obtain ⟨y, w', G2, r1, i2, e2, v2⟩ := append_own_sound (new := new) (news := news) i1 hu hs hb hz v1 n1 hS (fun i c u hc hu => ⟨(n2 i c u hc hu).1.inv hI e1, (n2 i c u hc hu).2⟩)
            hc.1 hc.2 (by simp)
          simp only [set_append_last] at i2
          exact ⟨y, w', G2, r1, i2, e1.trans e2 (Nat.le_refl _) (by simp), v2⟩
        | own k =>
          simp only [] at h
          cases htok : st.toks[k]? with
          | none => simp [htok] at h
          | some p =>
            obtain ⟨n, s⟩ := p
            rw [htok] at h
            simp only [] at h
            split at h
            · rename_i hn
              obtain ⟨rfl, rfl⟩ := hn
              injection h with h
              injection h with e1 e2
              subst e1; subst e2
              obtain ⟨n1, news, hS, n2⟩ := srcOf (P := P) hI h2 hsrc hk
              exact append_own_sound hI hu hs hb hz h1 n1 hS n2 hc.1 hc.2 htok
            · cases h
      · cases h
  | _ => simp [evT] at h

end Go.Am

/- The abstract machine's operations are sound: all of them, as the model runs them. -/
namespace Go.Am

/-- What an operation leaves: a value (or none), a world, the relation. -/
def NOk (P : Program) (G : Gh) (w : World) (st : St) (s : Sem Next) (v : AV) (st' : St) : Prop :=
  ∃ nx y w' G', s.run P w = .ok nx w' ∧ (nx = .value y ∨ (nx = .skip ∧ y = undef)) ∧ Inv G' w' st' ∧ Ext G w G' w' st.heap.length st.toks.length ∧ VRel G' w' v y

theorem SOk.next {P : Program} {G : Gh} {w : World} {st : St} {s : Sem Value} {v : AV} {st' : St} (h : SOk P G w st s v st') : NOk P G w st (do pure (.value (← s))) v st' := by
  obtain ⟨y, w', G', h1, h2, h3, h4⟩ := h
  exact ⟨.value y, y, w', G', by simp [h1], .inl rfl, h2, h3, h4⟩

theorem NOk.same {P : Program} {G : Gh} {w : World} {st : St} {s : Sem Value} {v : AV} (hI : Inv G w st) (h : ∃ u, s.run P w = .ok u w ∧ VRel G w v u) : NOk P G w st (do pure (.value (← s))) v st := by
  obtain ⟨u, h1, h2⟩ := h
  exact (SOk.same hI h1 h2).next

theorem ListRel.one {G : Gh} {w : World} {xs : List AV} {y : Value} (h : ListRel G w xs [y]) : ∃ x, xs = [x] ∧ VRel G w x y := by
  obtain ⟨x, xs', rfl, hx, hr⟩ := h.cons_inv
  rw [hr.nil_inv]
  exact ⟨x, rfl, hx⟩

theorem ListRel.two {G : Gh} {w : World} {xs : List AV} {y z : Value} (h : ListRel G w xs [y, z]) : ∃ x x', xs = [x, x'] ∧ VRel G w x y ∧ VRel G w x' z := by
  obtain ⟨x, xs', rfl, hx, hr⟩ := h.cons_inv
  obtain ⟨x', rfl, hx'⟩ := hr.one
  exact ⟨x, x', rfl, hx, hx'⟩

theorem ListRel.three {G : Gh} {w : World} {xs : List AV} {y z u : Value} (h : ListRel G w xs [y, z, u]) : ∃ x x' x'', xs = [x, x', x''] ∧ VRel G w x y ∧ VRel G w x' z ∧ VRel G w x'' u := by
  obtain ⟨x, xs', rfl, hx, hr⟩ := h.cons_inv
  obtain ⟨x', x'', rfl, hx', hx''⟩ := hr.two
  exact ⟨x, x', x'', rfl, hx, hx', hx''⟩

theorem evA_pure {op : AOp} {args : List AV} {st st' : St} {v : AV} (hc : op.cls = .pure) (h : evA op args st = some (v, st')) : evP op args = some v ∧ st' = st := by
  simp only [evA, hc] at h
  cases hp : evP op args with
  | none => simp [hp] at h
  | some u => simp [hp] at h; exact ⟨by rw [h.1], h.2.symm⟩

theorem evA_read {op : AOp} {args : List AV} {st st' : St} {v : AV} (hc : op.cls = .read) (h : evA op args st = some (v, st')) : evR op args st = some v ∧ st' = st := by
  simp only [evA, hc] at h
  cases hp : evR op args st with
  | none => simp [hp] at h
  | some u => simp [hp] at h; exact ⟨by rw [h.1], h.2.symm⟩

/-- Values that are neither nil interfaces nor structs are compared as they are; structs, where their type holds no interface. -/
theorem eqGuard_key {P : Program} {G : Gh} {w : World} {op : BinOp} {t : TypeId} {x y : Operand} {a b : AV} {ya yb : Value} (K : EqK) (hK : eqKindOf P t = K)
    (h : (isAny a = true ∨ isAny b = true ∨ (isAggV a = true ∧ isAggV b = true)) → ∃ r, eqKind K a b = some r) (ha : VRel G w a ya) (hb : VRel G w b yb) : (eqGuard op t x y ya yb).run P w = .ok () w := by
  have hag : isAggV a = true → isAggV b = true → P.eqGuardType P.depth t = false := by
    intro e1 e2
    obtain ⟨r, hr⟩ := h (.inr (.inr ⟨e1, e2⟩))
    cases K with
    | none => simp [eqKind] at hr
    | bool => cases a <;> simp [isAggV] at e1; simp [eqKind] at hr
    | ptr => cases a <;> simp [isAggV] at e1; simp [eqKind, isNilAddr] at hr
    | flat ks =>
      have := eqKindOf_flat hK
      unfold flatEq at this
      split at this
      all_goals first
        | (cases this; done)
        | (split at this
           · rename_i hc
             simpa using hc
           · cases this)
  have hany : isAny a = true → False := by
    intro e1
    obtain ⟨r, hr⟩ := h (.inl e1)
    cases a <;> simp [isAny] at e1
    cases K <;> simp [eqKind, isNilAddr] at hr
  have hanyb : isAny b = true → False := by
    intro e1
    obtain ⟨r, hr⟩ := h (.inr (.inl e1))
    cases b <;> simp [isAny] at e1
    cases K <;> cases a <;> simp [eqKind, isNilAddr] at hr
  cases op <;> first | rfl | skip
  all_goals
    cases ha with
    | any => exact (hany rfl).elim
    | agg cs vs a1 a2 a3 =>
      cases hb with
      | any => exact (hanyb rfl).elim
      | agg ds us b1 b2 b3 => simp [eqGuard, hag rfl rfl]
      | _ => rfl
    | _ => first | rfl | (cases hb <;> first | rfl | exact (hanyb rfl).elim)

theorem eqGuard_run {P : Program} {G : Gh} {w : World} {op : BinOp} {t : TypeId} {x y : Operand} {a b v : AV} {ya yb : Value} (h : binA op (eqKindOf P t) a b = some v) (ha : VRel G w a ya) (hb : VRel G w b yb) : (eqGuard op t x y ya yb).run P w = .ok () w := by
  have hno : ∀ op : BinOp, op ≠ .eql → op ≠ .neq → (eqGuard op t x y ya yb).run P w = .ok () w := by
    intro op h1 h2
    cases op <;> first | rfl | exact absurd rfl h1 | exact absurd rfl h2
  by_cases h1 : op = .eql
  · subst h1
    exact eqGuard_key (eqKindOf P t) rfl (by
      intro hag
      cases hk : eqKind (eqKindOf P t) a b with
      | none => cases ha <;> cases hb <;> simp [binA, hk] at h <;> simp [isAny, isAggV] at hag
      | some r => exact ⟨r, rfl⟩) ha hb
  · by_cases h2 : op = .neq
    · subst h2
      exact eqGuard_key (eqKindOf P t) rfl (by
        intro hag
        cases hk : eqKind (eqKindOf P t) a b with
        | none => cases ha <;> cases hb <;> simp [binA, hk] at h <;> simp [isAny, isAggV] at hag
        | some r => exact ⟨r, rfl⟩) ha hb
    · exact hno op h1 h2


theorem map_two {ρ : Operand → Value} {a b : Operand} : [a, b].map ρ = [ρ a, ρ b] := rfl

theorem mfn_rel {G : Gh} {w : World} {vs : List AV} {n : Nat} {f : Fn} {xs ys : Array Value} (hn : n = xs.size) (h : ListRel G w vs (xs.toList ++ ys.toList)) : VRel G w (.fn f (vs.take n) (vs.drop n)) (.func f xs ys) := by
  have hl : vs.length = xs.size + ys.size := by have := h.1; simpa using this
  refine .fn f _ _ xs ys (by simp; omega) (by simp; omega) (fun i c v hc hv => ?_) (fun i c v hc hv => ?_)
  · rw [List.getElem?_take] at hc
    split at hc
    · have hlt := (Array.getElem?_eq_some_iff.1 hv).1
      refine h.2 i c v hc ?_
      rw [List.getElem?_append_left (by simpa using hlt)]
      simpa using hv
    · cases hc
  · rw [List.getElem?_drop] at hc
    refine h.2 (n + i) c v hc ?_
    rw [List.getElem?_append_right (by simp; omega)]
    simp [hn]
    exact hv

theorem value_now {P : Program} {G : Gh} {w : World} {st : St} {v : AV} {y : Value} (hI : Inv G w st) (hv : VRel G w v y) : NOk P G w st (pure (.value y)) v st :=
  ⟨.value y, y, w, G, rfl, .inl rfl, hI, Ext.refl _ _ _ _, hv⟩

theorem snd_move {P : Program} {G : Gh} {w : World} {st st' : St} {ρ : Operand → Value} {op : AOp} {xs : List Operand} {avs : List AV} {v : AV} {x : Operand} (hI : Inv G w st) (hc : compP P (.move x) = some (.prim op, xs)) (hr : ListRel G w avs (xs.map ρ)) (he : evA op avs st = some (v, st')) :
    NOk P G w st (pure (.value (ρ x))) v st' := by
  simp only [compP] at hc
  simp only [Option.some.injEq, Prod.mk.injEq, Kind.prim.injEq] at hc
  obtain ⟨rfl, rfl⟩ := hc
  obtain ⟨a, rfl, ha⟩ := hr.one
  obtain ⟨h1, rfl⟩ := evA_pure rfl he
  simp only [evP, Option.some.injEq] at h1
  subst h1
  exact value_now hI ha

theorem snd_assign {P : Program} {G : Gh} {w : World} {st st' : St} {ρ : Operand → Value} {op : AOp} {xs : List Operand} {avs : List AV} {v : AV} {x : Operand} (hI : Inv G w st) (hc : compP P (.assign x) = some (.prim op, xs)) (hr : ListRel G w avs (xs.map ρ)) (he : evA op avs st = some (v, st')) :
    NOk P G w st (pure (.value (ρ x))) v st' := by
  simp only [compP] at hc
  simp only [Option.some.injEq, Prod.mk.injEq, Kind.prim.injEq] at hc
  obtain ⟨rfl, rfl⟩ := hc
  obtain ⟨a, rfl, ha⟩ := hr.one
  obtain ⟨h1, rfl⟩ := evA_pure rfl he
  simp only [evP, Option.some.injEq] at h1
  subst h1
  exact value_now hI ha

theorem snd_pick {P : Program} {G : Gh} {w : World} {st st' : St} {ρ : Operand → Value} {op : AOp} {xs : List Operand} {avs : List AV} {v : AV} {c x y : Operand} (hI : Inv G w st) (hc : compP P (.pick c x y) = some (.prim op, xs)) (hr : ListRel G w avs (xs.map ρ)) (he : evA op avs st = some (v, st')) :
    NOk P G w st (do pure (.value (if ← asBool (ρ c) then ρ x else ρ y))) v st' := by
  simp only [compP] at hc
  simp only [Option.some.injEq, Prod.mk.injEq, Kind.prim.injEq] at hc
  obtain ⟨rfl, rfl⟩ := hc
  obtain ⟨a, b, c', rfl, ha, hb, hc'⟩ := hr.three
  obtain ⟨h1, rfl⟩ := evA_pure rfl he
  cases a <;> simp [evP] at h1
  subst h1
  generalize hyc : ρ c = yc at ha
  cases ha
  rename_i bb
  refine ⟨_, if bb then ρ x else ρ y, w, G, by simp [asBool], .inl rfl, hI, Ext.refl _ _ _ _, ?_⟩
  cases bb <;> assumption

theorem snd_alloc {P : Program} {G : Gh} {w : World} {st st' : St} {ρ : Operand → Value} {op : AOp} {xs : List Operand} {avs : List AV} {v : AV} {t : TypeId} (hI : Inv G w st) (hc : compP P (.alloc t) = some (.prim op, xs)) (hr : ListRel G w avs (xs.map ρ)) (he : evA op avs st = some (v, st')) :
    NOk P G w st (do pure (.value (← Instr.alloc t true (.tuple #[])))) v st' := by
  simp only [compP] at hc
  cases hs : szOf P t with
  | none => simp [hs] at hc
  | some sz =>
    cases hz : zeroA P t with
    | none => simp [hs, hz] at hc
    | some z =>
      simp only [hs, hz, Option.bind_some, Option.some.injEq, Prod.mk.injEq, Kind.prim.injEq] at hc
      obtain ⟨rfl, rfl⟩ := hc
      have := hr.nil_inv
      subst this
      simp only [evA, AOp.cls, evW, Option.some.injEq, Prod.mk.injEq] at he
      obtain ⟨rfl, rfl⟩ := he
      exact (alloc_sound hI hz).next

theorem snd_box {P : Program} {G : Gh} {w : World} {st st' : St} {ρ : Operand → Value} {op : AOp} {xs : List Operand} {avs : List AV} {v : AV} {t : TypeId} {x : Operand} (hI : Inv G w st) (hc : compP P (.box t x) = some (.prim op, xs)) (hr : ListRel G w avs (xs.map ρ)) (he : evA op avs st = some (v, st')) :
    NOk P G w st (do pure (.value (← Instr.box t (ρ x)))) v st' := by
  simp only [compP] at hc
  cases hs : szOf P t with
  | none => simp [hs] at hc
  | some sz =>
    simp only [hs, Option.bind_some, Option.some.injEq, Prod.mk.injEq, Kind.prim.injEq] at hc
    obtain ⟨rfl, rfl⟩ := hc
    obtain ⟨a, rfl, ha⟩ := hr.one
    simp only [evA, AOp.cls, evW] at he
    split at he
    · rename_i hsh
      simp only [Option.some.injEq, Prod.mk.injEq] at he
      obtain ⟨rfl, rfl⟩ := he
      exact (box_sound hI ha hsh).next
    · cases he

theorem snd_build {P : Program} {G : Gh} {w : World} {st st' : St} {ρ : Operand → Value} {op : AOp} {xs : List Operand} {avs : List AV} {v : AV} {t : TypeId} {parts : Array (Nat × Operand)} (hI : Inv G w st) (hc : compP P (.build t parts) = some (.prim op, xs)) (hr : ListRel G w avs (xs.map ρ)) (he : evA op avs st = some (v, st')) :
    NOk P G w st (do pure (.value (← Instr.build t (parts.map fun (i, x) => (i, ρ x))))) v st' := by
  simp only [compP] at hc
  split at hc
  · rename_i fs z hu hz
    split at hc
    · cases hc
    · rename_i hall
      cases hps : parts.toList.mapM (fun p => (fs[p.1]?).bind fun f => (szOf P f.type).map fun s => (f.offset, s.getD 1)) with
      | none => simp [hps] at hc
      | some ps =>
        simp only [hps, Option.bind_some, Option.some.injEq, Prod.mk.injEq, Kind.prim.injEq] at hc
        obtain ⟨rfl, rfl⟩ := hc
        obtain ⟨h1, rfl⟩ := evA_pure rfl he
        refine NOk.same hI ?_
        refine build_struct_sound (parts := parts.map fun (i, x) => (i, ρ x)) hu hz (by simpa only [Bool.not_eq_false] using hall) (ps := ps) ?_ h1 (by simpa [Function.comp_def] using hr)
        rw [← hps]
        simp [List.mapM_map, Function.comp_def]
  · rename_i n e z hu hz
    cases hs : szOf P e with
    | none => simp [hs] at hc
    | some s =>
      simp only [hs, Option.bind_some, Option.some.injEq, Prod.mk.injEq, Kind.prim.injEq] at hc
      obtain ⟨rfl, rfl⟩ := hc
      obtain ⟨h1, rfl⟩ := evA_pure rfl he
      refine NOk.same hI ?_
      refine build_array_sound (parts := parts.map fun (i, x) => (i, ρ x)) hu hz hs (v := v) (vs := avs) ?_ (by simpa [Function.comp_def] using hr)
      rw [← h1]
      simp [Function.comp_def]
  · cases hc

theorem snd_buildSlice {P : Program} {G : Gh} {w : World} {st st' : St} {ρ : Operand → Value} {op : AOp} {xs : List Operand} {avs : List AV} {v : AV} {t : TypeId} {n : Nat} {parts : Array (Nat × Operand)} (hI : Inv G w st) (hc : compP P (.buildSlice t n parts) = some (.prim op, xs)) (hr : ListRel G w avs (xs.map ρ)) (he : evA op avs st = some (v, st')) :
    NOk P G w st (do pure (.value (← Instr.buildSlice t n (parts.map fun (i, x) => (i, ρ x))))) v st' := by
  simp only [compP] at hc
  cases hel : elemOfA P t with
  | none => simp [hel] at hc
  | some e =>
    cases hs : szOf P e with
    | none => simp [hel, hs] at hc
    | some sz =>
      simp only [hel, hs, Option.bind_some] at hc
      split at hc
      · rename_i hcond
        simp only [Option.some.injEq, Prod.mk.injEq, Kind.prim.injEq] at hc
        obtain ⟨rfl, rfl⟩ := hc
        obtain ⟨h1, rfl⟩ := evA_pure rfl he
        obtain ⟨c1, c2, c3⟩ := hcond
        have key : ∀ (ps : Array (Nat × Value)), ps.toList.map (·.1) = List.range n → ListRel G w avs (ps.toList.map (·.2)) → SOk P G w st' (Instr.buildSlice t n ps) v st' := fun ps p1 p2 => buildSl_sound hI (elemOfA_u hel) hs p1 c2 c3 h1 p2
        refine SOk.next (key _ ?_ ?_)
        · rw [← c1]; simp [Function.comp_def]
        · simpa [Function.comp_def] using hr
      · cases hc

theorem snd_load {P : Program} {G : Gh} {w : World} {st st' : St} {ρ : Operand → Value} {op : AOp} {xs : List Operand} {avs : List AV} {v : AV} {t : TypeId} {a : Operand} (hI : Inv G w st) (hc : compP P (.load t a) = some (.prim op, xs)) (hr : ListRel G w avs (xs.map ρ)) (he : evA op avs st = some (v, st')) :
    NOk P G w st (do pure (.value (← Instr.loadAt t (ρ a)))) v st' := by
  simp only [compP] at hc
  cases hs : szOf P t with
  | none => simp [hs] at hc
  | some sz =>
    simp only [hs, Option.bind_some, Option.some.injEq, Prod.mk.injEq, Kind.prim.injEq] at hc
    obtain ⟨rfl, rfl⟩ := hc
    obtain ⟨a, rfl, ha⟩ := hr.one
    obtain ⟨h1, rfl⟩ := evA_read rfl he
    exact NOk.same hI (load_sound hs hI ha h1)

theorem snd_store {P : Program} {G : Gh} {w : World} {st st' : St} {ρ : Operand → Value} {op : AOp} {xs : List Operand} {avs : List AV} {v : AV} {t : TypeId} {a x : Operand} (hI : Inv G w st) (hc : compP P (.store t a x) = some (.prim op, xs)) (hr : ListRel G w avs (xs.map ρ)) (he : evA op avs st = some (v, st')) :
    NOk P G w st (do Instr.storeAt t (ρ a) (ρ x); pure .skip) v st' := by
  simp only [compP] at hc
  cases hs : szOf P t with
  | none => simp [hs] at hc
  | some sz =>
    simp only [hs, Option.bind_some, Option.some.injEq, Prod.mk.injEq, Kind.prim.injEq] at hc
    obtain ⟨rfl, rfl⟩ := hc
    obtain ⟨a, b, rfl, ha, hb⟩ := hr.two
    obtain ⟨rfl, w', h1, h2, h3⟩ := store_sound hs hI ha hb he
    exact ⟨.skip, undef, w', G, by simp [h1], .inr ⟨rfl, rfl⟩, h2, h3, .tup _ _ rfl (by simp)⟩

/-- A slice, a map or a function. -/
def Nilly (v : Value) : Prop := (∃ a n c, v = .slice a n c) ∨ (∃ m, v = .map m) ∨ v = .nilFunc ∨ ∃ f a c, v = .func f a c

theorem nilBin_run {P : Program} {w : World} {b : BinOp} {t : TypeId} {x y : Operand} {xv yv : Value} {r : Bool} (hop : b = .eql ∨ b = .neq) (hx : Nilly xv) (h1 : (Op.equal t xv yv).run P w = .ok r w) :
    (do eqGuard b t x y xv yv; binOp b t xv yv : Sem Value).run P w = .ok (.bool (if b = .neq then !r else r)) w := by
  have h2 : (eqGuard b t x y xv yv).run P w = .ok () w := by
    rcases hx with ⟨_, _, _, rfl⟩ | ⟨_, rfl⟩ | rfl | ⟨_, _, _, rfl⟩ <;> rcases hop with rfl | rfl <;> rfl
  rcases hx with ⟨_, _, _, rfl⟩ | ⟨_, rfl⟩ | rfl | ⟨_, _, _, rfl⟩ <;> rcases hop with rfl | rfl <;> simp [h2, binOp, h1, Result.andThen]

theorem equalIn_nilS {P : Program} {w : World} {t e : TypeId} (hu : P.underlying t = some (.slice e)) (d : Nat) (a : Option Addr) (n c : Nat) : (Op.equalIn (d + 1) t (.slice a n c) (.slice none 0 0)).run P w = .ok a.isNone w := by
  cases a <;> simp [Op.equalIn, run_underlying hu]
theorem equalIn_nilM {P : Program} {w : World} {t k e : TypeId} (hu : P.underlying t = some (.map k e)) (d : Nat) (a : Option Nat) : (Op.equalIn (d + 1) t (.map a) (.map none)).run P w = .ok a.isNone w := by
  cases a <;> simp [Op.equalIn, run_underlying hu]
theorem equalIn_nilF {P : Program} {w : World} {t : TypeId} {a b c} (hu : P.underlying t = some (.func a b c)) (d : Nat) (v : Value) (r : Bool) (h : (v = .nilFunc ∧ r = true) ∨ (∃ f x y, v = .func f x y) ∧ r = false) : (Op.equalIn (d + 1) t v .nilFunc).run P w = .ok r w := by
  rcases h with ⟨rfl, rfl⟩ | ⟨⟨f, x, y, rfl⟩, rfl⟩ <;> simp [Op.equalIn, run_underlying hu]
theorem equal_nilS {P : Program} {w : World} {t e : TypeId} (hu : P.underlying t = some (.slice e)) (a : Option Addr) (n c : Nat) : (Op.equal t (.slice a n c) (.slice none 0 0)).run P w = .ok a.isNone w := equalIn_nilS hu 9999 a n c
theorem equal_nilM {P : Program} {w : World} {t k e : TypeId} (hu : P.underlying t = some (.map k e)) (a : Option Nat) : (Op.equal t (.map a) (.map none)).run P w = .ok a.isNone w := equalIn_nilM hu 9999 a
theorem equal_nilF {P : Program} {w : World} {t : TypeId} {a b c} (hu : P.underlying t = some (.func a b c)) (v : Value) (r : Bool) (h : (v = .nilFunc ∧ r = true) ∨ (∃ f x y, v = .func f x y) ∧ r = false) : (Op.equal t v .nilFunc).run P w = .ok r w := equalIn_nilF hu 9999 v r h

theorem isNil_sound {P : Program} {G : Gh} {w : World} {ρ : Operand → Value} {b : BinOp} {t : TypeId} {x y : Operand} {a v : AV} {k : Nat} (hρ : ∀ v, ρ (.const v) = v) (hn : isNilOp P b t y = some k)
    (he : ((isNilA k a).map fun v => if b == .neq then notA v else v) = some v) (ha : VRel G w a (ρ x)) :
    ∃ u, (do eqGuard b t x y (ρ x) (ρ y); binOp b t (ρ x) (ρ y) : Sem Value).run P w = .ok u w ∧ VRel G w v u := by
  unfold isNilOp at hn
  split at hn
  case isFalse => cases hn
  rename_i hop
  generalize ρ x = xv at ha
  split at hn
  · rename_i e hu
    injection hn with hn; subst hn
    rw [hρ]
    cases ha with
    | slnil tk ht =>
      simp [isNilA, notA] at he
      subst he
      exact ⟨_, nilBin_run hop (.inl ⟨_, _, _, rfl⟩) (equal_nilS hu _ _ _), .ub _⟩
    | slz tk ad ht =>
      simp [isNilA, notA] at he
      subst he
      exact ⟨_, nilBin_run hop (.inl ⟨_, _, _, rfl⟩) (equal_nilS hu _ _ _), .ub _⟩
    | sl tk es bb o cap sz cv h1 h2 h3 h4 h5 =>
      refine ⟨_, nilBin_run hop (.inl ⟨_, _, _, rfl⟩) (equal_nilS hu _ _ _), ?_⟩
      cases es with
      | nil => simp [isNilA, notA] at he; subst he; exact .ub _
      | cons e es =>
        simp [isNilA, notA] at he
        subst he
        rcases hop with rfl | rfl <;> exact .bool _
    | msl l off len sz B cap z h1 h2 h3 h4 =>
      refine ⟨_, nilBin_run hop (.inl ⟨_, _, _, rfl⟩) (equal_nilS hu _ _ _), ?_⟩
      simp [isNilA, notA] at he
      subst he
      rcases hop with rfl | rfl <;> exact .bool _
    | _ => simp [isNilA] at he
  · rename_i e hu
    injection hn with hn; subst hn
    rw [hρ]
    cases ha with
    | mapnil =>
      simp [isNilA, notA] at he
      subst he
      refine ⟨_, nilBin_run hop (.inr (.inl ⟨_, rfl⟩)) (equal_nilM hu _), ?_⟩
      rcases hop with rfl | rfl <;> exact .bool _
    | map l B hl =>
      simp [isNilA, notA] at he
      subst he
      refine ⟨_, nilBin_run hop (.inr (.inl ⟨_, rfl⟩)) (equal_nilM hu _), ?_⟩
      rcases hop with rfl | rfl <;> exact .bool _
    | _ => simp [isNilA] at he
  · rename_i hu
    injection hn with hn; subst hn
    rw [hρ]
    cases ha with
    | nilfn =>
      simp [isNilA, notA] at he
      subst he
      refine ⟨_, nilBin_run hop (.inr (.inr (.inl rfl))) (equal_nilF hu _ true (.inl ⟨rfl, rfl⟩)), ?_⟩
      rcases hop with rfl | rfl <;> exact .bool _
    | fn f xs ys vs us h1 h2 h3 h4 =>
      simp [isNilA, notA] at he
      subst he
      refine ⟨_, nilBin_run hop (.inr (.inr (.inr ⟨_, _, _, rfl⟩))) (equal_nilF hu _ false (.inr ⟨⟨_, _, _, rfl⟩, rfl⟩)), ?_⟩
      rcases hop with rfl | rfl <;> exact .bool _
    | _ => simp [isNilA] at he
  · cases hn

theorem snd_binOp {P : Program} {G : Gh} {w : World} {st st' : St} {ρ : Operand → Value} {op : AOp} {xs : List Operand} {avs : List AV} {v : AV} {b : BinOp} {t t2 : TypeId} {x y : Operand} (hρ : ∀ v, ρ (.const v) = v) (hI : Inv G w st) (hc : compP P (.binOp b t x y t2) = some (.prim op, xs)) (hr : ListRel G w avs (xs.map ρ)) (he : evA op avs st = some (v, st')) :
    NOk P G w st (do pure (.value (← (do eqGuard b t x y (ρ x) (ρ y); binOp b t (ρ x) (ρ y))))) v st' := by
  simp only [compP] at hc
  split at hc
  · rename_i hn
    simp only [Option.some.injEq, Prod.mk.injEq, Kind.prim.injEq] at hc
    obtain ⟨rfl, rfl⟩ := hc
    obtain ⟨a, rfl, ha⟩ := hr.one
    obtain ⟨h1, rfl⟩ := evA_pure rfl he
    simp only [evP] at h1
    obtain ⟨u, h2, h3⟩ := isNil_sound hρ hn h1 ha
    exact NOk.same hI ⟨u, h2, h3⟩
  simp only [Option.some.injEq, Prod.mk.injEq, Kind.prim.injEq] at hc
  obtain ⟨rfl, rfl⟩ := hc
  obtain ⟨a, c, rfl, ha, hb⟩ := hr.two
  obtain ⟨h1, rfl⟩ := evA_pure rfl he
  simp only [evP] at h1
  obtain ⟨u, h2, h3⟩ := binA_sound h1 ha hb
  exact NOk.same hI ⟨u, by simp [eqGuard_run h1 ha hb, h2], h3⟩

theorem snd_unOp {P : Program} {G : Gh} {w : World} {st st' : St} {ρ : Operand → Value} {op : AOp} {xs : List Operand} {avs : List AV} {v : AV} {b : UnOp} {t : TypeId} {x : Operand} (hI : Inv G w st) (hc : compP P (.unOp b t x) = some (.prim op, xs)) (hr : ListRel G w avs (xs.map ρ)) (he : evA op avs st = some (v, st')) :
    NOk P G w st (do pure (.value (← Op.unary b (ρ x)))) v st' := by
  simp only [compP] at hc
  simp only [Option.some.injEq, Prod.mk.injEq, Kind.prim.injEq] at hc
  obtain ⟨rfl, rfl⟩ := hc
  obtain ⟨a, rfl, ha⟩ := hr.one
  obtain ⟨h1, rfl⟩ := evA_pure rfl he
  simp only [evP] at h1
  exact NOk.same hI (unA_sound h1 ha)

theorem snd_extract {P : Program} {G : Gh} {w : World} {st st' : St} {ρ : Operand → Value} {op : AOp} {xs : List Operand} {avs : List AV} {v : AV} {x : Operand} {i : Nat} (hI : Inv G w st) (hc : compP P (.extract x i) = some (.prim op, xs)) (hr : ListRel G w avs (xs.map ρ)) (he : evA op avs st = some (v, st')) :
    NOk P G w st (do pure (.value (← Instr.extract (ρ x) i))) v st' := by
  simp only [compP] at hc
  simp only [Option.some.injEq, Prod.mk.injEq, Kind.prim.injEq] at hc
  obtain ⟨rfl, rfl⟩ := hc
  obtain ⟨a, rfl, ha⟩ := hr.one
  obtain ⟨h1, rfl⟩ := evA_pure rfl he
  cases a <;> simp [evP] at h1
  rename_i vs
  generalize ρ x = y at ha
  cases ha with
  | tup _ us k1 k2 =>
    have hlt := (List.getElem?_eq_some_iff.1 h1).1
    have hu : us[i]? = some us[i] := by simp [(by omega : i < us.size)]
    exact NOk.same hI ⟨us[i], by simp [Instr.extract, hu], k2 i v _ h1 hu⟩

theorem snd_field {P : Program} {G : Gh} {w : World} {st st' : St} {ρ : Operand → Value} {op : AOp} {xs : List Operand} {avs : List AV} {v : AV} {t : TypeId} {x : Operand} {i : Nat} (hI : Inv G w st) (hc : compP P (.field t x i) = some (.prim op, xs)) (hr : ListRel G w avs (xs.map ρ)) (he : evA op avs st = some (v, st')) :
    NOk P G w st (do pure (.value (← Instr.field t (ρ x) i))) v st' := by
  simp only [compP] at hc
  cases hf : fieldOf P t i with
  | none => simp [hf] at hc
  | some p =>
    obtain ⟨off, sz⟩ := p
    simp only [hf, Option.bind_some, Option.some.injEq, Prod.mk.injEq, Kind.prim.injEq] at hc
    obtain ⟨rfl, rfl⟩ := hc
    obtain ⟨a, rfl, ha⟩ := hr.one
    obtain ⟨h1, rfl⟩ := evA_pure rfl he
    exact NOk.same hI (field_sound hf h1 ha)

theorem snd_fieldAddr {P : Program} {G : Gh} {w : World} {st st' : St} {ρ : Operand → Value} {op : AOp} {xs : List Operand} {avs : List AV} {v : AV} {t : TypeId} {x : Operand} {i : Nat} (hI : Inv G w st) (hc : compP P (.fieldAddr t x i) = some (.prim op, xs)) (hr : ListRel G w avs (xs.map ρ)) (he : evA op avs st = some (v, st')) :
    NOk P G w st (do pure (.value (← Instr.fieldAt t (ρ x) i))) v st' := by
  simp only [compP] at hc
  cases hf : fieldOf P t i with
  | none => simp [hf] at hc
  | some p =>
    obtain ⟨off, sz⟩ := p
    simp only [hf, Option.bind_some, Option.some.injEq, Prod.mk.injEq, Kind.prim.injEq] at hc
    obtain ⟨rfl, rfl⟩ := hc
    obtain ⟨a, rfl, ha⟩ := hr.one
    obtain ⟨h1, rfl⟩ := evA_pure rfl he
    exact NOk.same hI (fieldAddr_sound hf h1 ha)

end Go.Am

/- The abstract machine's operations are sound: slices that are made, copied, appended to. -/
import Derived.Test.YtbmcgfdopaaiiaaZAmSound5
set_option linter.all false
namespace Go.Am

theorem unzip_zip {α β : Type} : ∀ (l : List (α × β)), (l.map (·.1)).zip (l.map (·.2)) = l
  | [] => rfl
  | (a, b) :: l => by simp [unzip_zip l]

theorem buildSl_sound {P : Program} {G : Gh} {w : World} {st : St} {t e : TypeId} {n : Nat} {sz : Option Nat} {parts : Array (Nat × Value)} {vs : List AV} {v : AV} (hI : Inv G w st) (hu : P.underlying t = some (.slice e)) (hs : szOf P e = some sz)
    (hr : parts.toList.map (·.1) = List.range n) (h24 : n * sz.getD 1 ≤ 16777216) (hz : (P.info? e).any (·.zero.isSome) = true) (h : evP (.buildSl sz) vs = some v) (hv : ListRel G w vs (parts.toList.map (·.2))) :
    SOk P G w st (Instr.buildSlice t n parts) v st := by
  obtain ⟨_, hsz, hpos⟩ := szOf_run hs w
  simp only [evP] at h
  split at h
  · rename_i hall
    injection h with h
    subst h
    have hsh : ∀ x ∈ vs, x ≠ .any ∧ isTup x = false ∧ x.cells.length = sz.getD 1 := fun x hx => shaped_facts (by simp only [List.all_eq_true] at hall; exact hall x hx)
    obtain ⟨q1, q2⟩ := flat_rel hv hsh
    have hn : (parts.toList.map (·.2)).length = n := by
      have := congrArg List.length hr
      simpa using this
    have hvn : vs.length = n := by rw [hv.1, hn]
    obtain ⟨it, hit, hiz⟩ : ∃ it, P.info? e = some it ∧ it.zero.isSome = true := by
      cases hi : P.info? e with
      | none => simp [hi] at hz
      | some it => exact ⟨it, rfl, by simpa [hi] using hz⟩
    obtain ⟨zv, hzv⟩ := Option.isSome_iff_exists.1 hiz
    have hys : ∀ y ∈ parts.toList.map (·.2), y.cells.size = sz.getD 1 := by
      intro y hy
      obtain ⟨i, hi, rfl⟩ := List.mem_iff_getElem.1 hy
      have hi' : i < vs.length := by rw [hv.1]; exact hi
      have hx := hsh vs[i] (List.getElem_mem hi')
      have := hv.2 i vs[i] _ (by simp [hi']) (List.getElem?_eq_getElem hi)
      rw [← (this.cells hx.1 hx.2.1).1]
      exact hx.2.2
    have hzr : ∃ zc : Array Value, Sem.run P (if n * sz.getD 1 = 0 then pure #[] else do pure (← zeroValue e).cells) w = .ok zc w := by
      split
      · exact ⟨_, rfl⟩
      · exact ⟨zv.cells, by simp [zeroValue, typeInfo, hit, hzv]⟩
    obtain ⟨zc, hzc⟩ := hzr
    obtain ⟨r, f1, f2, f3⟩ := fill_inorder (sz := sz.getD 1) (parts.toList.map (·.2)) 0 ((Array.range (n * sz.getD 1)).map (zc[· % zc.size]!)) hys (by rw [hn]; simp)
    have hparts : (List.range' 0 (parts.toList.map (·.2)).length).zip (parts.toList.map (·.2)) = parts.toList := by
      rw [hn, ← List.range_eq_range', ← hr, unzip_zip]
    rw [hparts] at f1
    have hfl : (flat vs).length = n * sz.getD 1 := by rw [flat_length (fun x hx => (hsh x hx).2.2), hvn]
    have hrun : (Instr.buildSlice t n parts).run P w = .ok (.slice (some ⟨w.heap.size, 0, none⟩) n n) (w.alloc (.cells r e)) := by
      have h24' : ¬ (n * sz.getD 1 > 2 ^ 24) := by omega
      simp only [Instr.buildSlice, Sem.run_bind, Sem.run_ite, Sem.run_pure, run_underlying hu, Result.andThen, hsz, if_neg h24'] at hzc ⊢
      have hzv' : (zeroValue e).run P w = .ok zv w := by simp [zeroValue, typeInfo, hit, hzv]
      rw [hzv'] at hzc ⊢
      split at hzc
      · rename_i h0
        injection hzc with hzc
        subst hzc
        rw [if_pos h0, f1]
        simp [newRow]
      · rename_i h0
        injection hzc with hzc
        subst hzc
        rw [if_neg h0]
        simp only []
        rw [f1]
        simp [newRow]
    obtain ⟨G', i1, e1, v1⟩ := newImm hI (us := r) (e := e) (fr := (0, 0)) (es := vs) (sz := sz.getD 1) (tk := .clip) n (fun x hx => (hsh x hx).2.2) (by omega) (by rw [f2, hfl]; simp) (fun i c u hc hu => by
      have hlt : i < n * sz.getD 1 := by rw [← hfl]; exact (List.getElem?_eq_some_iff.1 hc).1
      rw [f3 i, hn, Nat.zero_add, if_pos ⟨by simp, hlt⟩] at hu
      simp only [Nat.zero_mul, Nat.sub_zero] at hu
      exact q2 i c u hc hu) (.inr ⟨rfl, hvn.symm⟩)
    rw [hvn] at v1
    exact ⟨_, _, G', hrun, i1, e1, v1⟩
  · cases h

theorem conv_sound {P : Program} {G : Gh} {w : World} {src dst : TypeId} {j k : IntKind} {x v : AV} {y : Value} (hs : P.underlying src = some (.int j)) (hd : P.underlying dst = some (.int k)) (h : evP (.conv k) [x] = some v) (hx : VRel G w x y) :
    ∃ u, (convert src dst y).run P w = .ok u w ∧ VRel G w v u := by
  cases x <;> simp [evP] at h
  subst h
  cases hx
  exact ⟨_, by simp [convert, run_underlying hs, run_underlying hd, Conv.intToInt], .int _ _⟩

theorem toBytes_inv : ∀ {es : List AV} {l : List UInt8}, toBytes es = some l → l.length = es.length ∧ ∀ (i : Nat) (c : AV), es[i]? = some c → ∃ n, c = .int .u8 n ∧ l[i]? = some (UInt8.ofNat n.toNat)
  | [], l, h => by simp [toBytes] at h; subst h; exact ⟨rfl, by simp⟩
  | e :: es, l, h => by
    unfold toBytes at h
    split at h
    · rename_i heq; cases heq
    · rename_i n es' heq
      injection heq with e1 e2
      subst e1; subst e2
      cases h2 : toBytes es with
      | none => simp [h2] at h
      | some l' =>
        simp [h2] at h
        subst h
        obtain ⟨q1, q2⟩ := toBytes_inv h2
        refine ⟨by simp [q1], fun i c hc => ?_⟩
        cases i with
        | zero => simp at hc; subst hc; exact ⟨n, rfl, rfl⟩
        | succ i => simp at hc; simpa using q2 i c hc
    · cases h

theorem bytes_back {P : Program} {G : Gh} {w : World} {src dst e : TypeId} {b o cap : Nat} {es : List AV} {l : List UInt8} (hs : P.underlying src = some (.slice e)) (he : P.underlying e = some (.int .u8)) (hd : P.underlying dst = some .string)
    (hl : toBytes es = some l) (hc : CellsAt G w b o es) : (convert src dst (.slice (some ⟨b, o, none⟩) es.length cap)).run P w = .ok (.string ⟨l.toArray⟩) w := by
  obtain ⟨q1, q2⟩ := toBytes_inv hl
  obtain ⟨us, u1, u2, u3⟩ := hc.list
  have hns : ∃ ns : List Int, us = ns.map (Value.int .u8) ∧ ns.foldl (fun r n => r.push (UInt8.ofNat n.toNat)) ByteArray.empty = ⟨l.toArray⟩ := by
    have key : ∀ (es : List AV) (us : List Value) (l : List UInt8) (r : ByteArray), us.length = es.length → l.length = es.length → (∀ (i : Nat) (c : AV), es[i]? = some c → ∃ n, c = .int .u8 n ∧ l[i]? = some (UInt8.ofNat n.toNat)) →
        (∀ (j : Nat) (c : AV) (u : Value), es[j]? = some c → us[j]? = some u → VRel G w c u ∧ u.oneCell' = true) → ∃ ns : List Int, us = ns.map (Value.int .u8) ∧ ns.foldl (fun r n => r.push (UInt8.ofNat n.toNat)) r = ⟨r.data ++ l.toArray⟩ := by
      intro es
      induction es with
      | nil =>
        intro us l r h1 h2 _ _
        have e1 : us = [] := by simpa using h1
        have e2 : l = [] := by simpa using h2
        subst e1; subst e2
        exact ⟨[], rfl, by simp⟩
      | cons c es ih =>
        intro us l r h1 h2 h3 h4
        cases us with
        | nil => simp at h1
        | cons u us =>
          cases l with
          | nil => simp at h2
          | cons x l =>
            obtain ⟨n, rfl, hx⟩ := h3 0 c rfl
            simp at hx
            subst hx
            have hu := (h4 0 _ u rfl rfl).1
            cases hu
            obtain ⟨ns, n1, n2⟩ := ih us l (r.push (UInt8.ofNat n.toNat)) (by simpa using h1) (by simpa using h2) (fun i c hc => by have := h3 (i + 1) c (by simpa using hc); simpa using this)
              (fun j c u hc hu => h4 (j + 1) c u (by simpa using hc) (by simpa using hu))
            refine ⟨n :: ns, by simp [n1], ?_⟩
            simp only [List.foldl_cons]
            rw [n2]
            simp [ByteArray.push]
    obtain ⟨ns, n1, n2⟩ := key es us l ByteArray.empty u1 q1 q2 u3
    exact ⟨ns, n1, by rw [n2]; simp [ByteArray.empty, ByteArray.emptyWithCapacity]; rfl⟩
  obtain ⟨ns, rfl, n2⟩ := hns
  have hload := run_loadCells_at P u2
  rw [u1] at hload
  have := run_bytesToString (P := P) w ⟨b, o, none⟩ es.length cap ns hload
  rw [n2] at this
  simp [convert, run_underlying hs, run_underlying hd, run_underlying he, this]

theorem flat_scalar : ∀ {es : List AV}, (∀ e ∈ es, e.cells = [e]) → flat es = es
  | [], _ => rfl
  | e :: es, h => by
    have := flat_scalar (es := es) (fun x hx => h x (by simp [hx]))
    simp only [flat, List.flatMap_cons] at this ⊢
    rw [h e (by simp), this]
    rfl

theorem toBytes_scalar {es : List AV} {l : List UInt8} (h : toBytes es = some l) : ∀ e ∈ es, e.cells = [e] := by
  intro e he
  obtain ⟨i, hi, rfl⟩ := List.mem_iff_getElem.1 he
  obtain ⟨n, hn, _⟩ := (toBytes_inv h).2 i es[i] (by simp [hi])
  rw [hn]
  rfl

theorem strOf_sound {P : Program} {G : Gh} {w : World} {st : St} {src dst e : TypeId} {x v : AV} {y : Value} (hI : Inv G w st) (hs : P.underlying src = some (.slice e)) (he : isU8 P e = true) (hd : P.underlying dst = some .string) (h : evR .strOf [x] st = some v) (hx : VRel G w x y) :
    ∃ u, (convert src dst y).run P w = .ok u w ∧ VRel G w v u := by
  have he' : P.underlying e = some (.int .u8) := by
    unfold isU8 at he
    split at he
    · assumption
    · cases he
  cases x with
  | sl tk es =>
    simp only [evR] at h
    cases hb : toBytes es with
    | none => simp [hb] at h
    | some l =>
      simp [hb] at h
      subst h
      refine ⟨.string ⟨l.toArray⟩, ?_, VRel.str' l⟩
      cases hx with
      | slnil =>
        simp [toBytes] at hb
        subst hb
        simp [convert, run_underlying hs, run_underlying hd, run_underlying he', Conv.bytesToString]
        rfl
      | slz =>
        simp [toBytes] at hb
        subst hb
        simp [convert, run_underlying hs, run_underlying hd, run_underlying he', Conv.bytesToString]
        rfl
      | sl _ _ b o cap sz cv h1 h2 h3 h4 h5 =>
        refine bytes_back (G := G) hs he' hd hb ?_
        rw [flat_scalar (toBytes_scalar hb)] at h3 h4
        exact fun j c hj => ⟨_, (h3 j c hj).2.1, h4 j c hj, (h3 j c hj).2.2⟩
  | msl l off len sz =>
    cases sz with
    | some _ => simp [evR] at h
    | none =>
      simp only [evR] at h
      cases hl : st.heap[l]? with
      | none => simp [hl] at h
      | some blk =>
        rw [hl] at h
        cases blk with
        | cells fz vs =>
          simp only [] at h
          split at h
          · rename_i hle
            cases hb : toBytes ((vs.drop off).take len) with
            | none => simp [hb] at h
            | some bs =>
              simp [hb] at h
              subst h
              cases hx with
              | msl _ _ _ _ B cap z h1 h2 h3 h4 =>
                obtain ⟨B', p1, p2⟩ := hI.blk l _ hl
                rw [h1] at p1
                injection p1 with p1
                subst p1
                have hlen : ((vs.drop off).take len).length = len := by simp; omega
                refine ⟨.string ⟨bs.toArray⟩, ?_, VRel.str' _⟩
                have := bytes_back (P := P) (cap := cap) hs he' hd hb ((p2.cellsAt.drop off).take len)
                rw [hlen] at this
                simpa using this
          · cases h
        | _ => simp at h
  | _ => simp [evR] at h

theorem bytesOf_sound {P : Program} {G : Gh} {w : World} {st : St} {src dst e : TypeId} {x v : AV} {y : Value} (hI : Inv G w st) (hs : P.underlying src = some .string) (hd : P.underlying dst = some (.slice e)) (he : isU8 P e = true) (h : evP .bytesOf [x] = some v) (hx : VRel G w x y) :
    SOk P G w st (convert src dst y) v st := by
  have he' : P.underlying e = some (.int .u8) := by
    unfold isU8 at he
    split at he
    · assumption
    · cases he
  cases x <;> simp [evP] at h
  rename_i l
  obtain ⟨hl, rfl⟩ := h
  rw [hx.str_inv]
  have hrun := run_bytes_of_string (P := P) w src dst e ⟨l.toArray⟩ hs hd he'
  have hI' := hI.drawn (w.drawn + 1)
  have hE' := Ext.drawn G w (w.drawn + 1) st.heap.length st.toks.length
  have hsz : (⟨l.toArray⟩ : ByteArray).size = l.length := by simp [ByteArray.size]
  have hfl : flat (ofBytes l) = ofBytes l := flat_scalar (fun e he => by obtain ⟨b, _, rfl⟩ := List.mem_map.1 he; rfl)
  have hgc : l.length ≤ grownCap w l.length 0 e := by
    unfold grownCap
    simp [Question.cut]
  obtain ⟨G', i1, e1, v1⟩ := newImm hI' (us := bytesRow ⟨l.toArray⟩ (grownCap w l.length 0 e)) (e := e) (fr := ((bytesRow ⟨l.toArray⟩ (grownCap w l.length 0 e)).size, (bytesRow ⟨l.toArray⟩ (grownCap w l.length 0 e)).size + 1)) (es := ofBytes l) (sz := 1) (tk := .any) (grownCap w l.length 0 e)
    (fun x hx => by obtain ⟨b, _, rfl⟩ := List.mem_map.1 hx; rfl) (by simpa [ofBytes] using hgc) (by rw [hfl]; simp [ofBytes, bytesRow]) (fun i c u hc hu => by
      rw [hfl] at hc
      have hlt : i < l.length := by simpa [ofBytes] using (List.getElem?_eq_some_iff.1 hc).1
      simp [ofBytes, hlt] at hc
      subst hc
      have : (bytesRow ⟨l.toArray⟩ (grownCap w l.length 0 e))[i]? = some (.int .u8 (l[i].toNat : Int)) := by
        simp [bytesRow, Array.getElem?_append, hlt]
      rw [this] at hu
      injection hu with hu
      subst hu
      exact ⟨.int _ _, rfl⟩) (.inl rfl)
  refine ⟨_, _, G', hrun, ?_, ?_, ?_⟩
  · rw [hsz]; exact i1
  · rw [hsz]; exact hE'.trans e1 (Nat.le_refl _) (Nat.le_refl _)
  · have : (ofBytes l).length = l.length := by simp [ofBytes]
    rw [this] at v1
    rw [hsz]
    exact v1

end Go.Am

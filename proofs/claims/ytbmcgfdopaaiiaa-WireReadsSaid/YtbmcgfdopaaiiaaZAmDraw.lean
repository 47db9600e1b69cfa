/- Regions whose order is open: the orders that the model may draw. -/
import Derived.Test.YtbmcgfdopaaiiaaZAmWp2
set_option linter.all false
namespace Go.Am

theorem nodup_sub_erase {a : Nat} {l1 l2 : List Nat} (hn : (a :: l1).Nodup) (hs : ∀ x ∈ a :: l1, x ∈ l2) : ∀ x ∈ l1, x ∈ l2.erase a := by
  intro x hx
  have hne : x ≠ a := fun e => by subst e; exact (List.nodup_cons.1 hn).1 hx
  exact (List.mem_erase_of_ne hne).2 (hs x (by simp [hx]))

theorem nodup_sub_len : ∀ {l1 l2 : List Nat}, l1.Nodup → (∀ x ∈ l1, x ∈ l2) → l1.length ≤ l2.length
  | [], _, _, _ => Nat.zero_le _
  | a :: l1, l2, hn, hs => by
    have ih := nodup_sub_len (List.nodup_cons.1 hn).2 (nodup_sub_erase hn hs)
    have ha : a ∈ l2 := hs a (by simp)
    rw [List.length_erase_of_mem ha] at ih
    have := List.length_pos_of_mem ha
    simp only [List.length_cons]
    omega

theorem nodup_sub_perm : ∀ {l1 l2 : List Nat}, l1.Nodup → (∀ x ∈ l1, x ∈ l2) → l2.length ≤ l1.length → l1.Perm l2
  | [], l2, _, _, hl => by
    have : l2 = [] := by simpa using hl
    subst this
    exact .refl _
  | a :: l1, l2, hn, hs, hl => by
    have ha : a ∈ l2 := hs a (by simp)
    have ih := nodup_sub_perm (List.nodup_cons.1 hn).2 (nodup_sub_erase hn hs) (by rw [List.length_erase_of_mem ha]; simp at hl; omega)
    exact (ih.cons a).trans (List.perm_cons_erase ha).symm

/-- An order of the places 0 .. in which each stands behind all that it waits for. -/
structure Valid (deps : List (List Nat)) (l : List Nat) : Prop where
  perm : l.Perm (List.range deps.length)
  before : ∀ (p i j : Nat) (ds : List Nat), l[p]? = some i → deps[i]? = some ds → j ∈ ds → ∃ q, q < p ∧ l[q]? = some j

def depsOf (ops : Array Oper) : List (List Nat) := ops.toList.map fun o => (o.after.toList.filter fun e => Region.binds .any e).map (·.on)

def depsBack (ops : Array Oper) : Bool := ops.toList.zipIdx.all fun (o, i) => o.after.toList.all fun e => !Region.binds .any e || decide (e.on < i)

/-- What 'linearise' keeps while it lists. -/
structure Lin (ops : Array Oper) (listed : Array Bool) (acc : List Nat) : Prop where
  size : listed.size = ops.size
  nodup : acc.Nodup
  mem : ∀ i, i ∈ acc ↔ listed[i]? = some true
  before : ∀ (p i j : Nat) (ds : List Nat), acc.reverse[p]? = some i → (depsOf ops)[i]? = some ds → j ∈ ds → ∃ q, q < p ∧ acc.reverse[q]? = some j

def ready (ops : Array Oper) (listed : Array Bool) : List Nat :=
  (List.range ops.size).filter fun i => !listed.getD i true && ((ops[i]?).map (·.after.all fun e => !Region.binds .any e || listed.getD e.on false)).getD false

theorem ready_mem {ops : Array Oper} {listed : Array Bool} {i : Nat} (h : i ∈ ready ops listed) : listed[i]? = some false ∧ ∃ ds, (depsOf ops)[i]? = some ds ∧ ∀ j ∈ ds, listed[j]? = some true := by
  simp only [ready, List.mem_filter, List.mem_range, Bool.and_eq_true, Bool.not_eq_true'] at h
  obtain ⟨h1, h2, h3⟩ := h
  have hl : listed[i]? = some false := by
    simp only [Array.getD] at h2
    split at h2
    · rename_i hlt; simp [hlt]; simpa using h2
    · cases h2
  refine ⟨hl, _, by simp only [depsOf, List.getElem?_map]; rw [Array.getElem?_toList, Array.getElem?_eq_getElem h1]; rfl, fun j hj => ?_⟩
  simp only [List.mem_map, List.mem_filter] at hj
  obtain ⟨e, ⟨he, hb⟩, rfl⟩ := hj
  rw [Array.getElem?_eq_getElem h1] at h3
  simp only [Option.map_some, Option.getD_some, Array.all_eq_true] at h3
  obtain ⟨k, hk, rfl⟩ := List.mem_iff_getElem.1 he
  have := h3 k (by simpa using hk)
  simp only [Array.getElem_toList] at hb ⊢
  simp only [hb, Bool.not_true, Bool.false_or, Array.getD] at this
  split at this
  · rename_i hlt; simp [hlt]; simpa using this
  · cases this

theorem ready_some {ops : Array Oper} {listed : Array Bool} (hsize : listed.size = ops.size) (hb : depsBack ops = true) {i : Nat} (hi : listed[i]? = some false) (hmin : ∀ j, j < i → listed[j]? = some true) : i ∈ ready ops listed := by
  have hlt : i < ops.size := by rw [← hsize]; exact (Array.getElem?_eq_some_iff.1 hi).1
  simp only [ready, List.mem_filter, List.mem_range, Bool.and_eq_true, Bool.not_eq_true']
  refine ⟨hlt, ?_, ?_⟩
  · simp only [Array.getD]
    have := (Array.getElem?_eq_some_iff.1 hi)
    rw [dif_pos this.1]
    simpa using this.2
  · rw [Array.getElem?_eq_getElem hlt]
    simp only [Option.map_some, Option.getD_some, Array.all_eq_true]
    intro k hk
    simp only [depsBack, List.all_eq_true] at hb
    have := hb (ops[i], i) (by
      rw [List.mem_zipIdx_iff_getElem?]
      simp [hlt])
    simp only [List.all_eq_true] at this
    have := this ops[i].after[k] (by simp)
    simp only [Bool.or_eq_true, Bool.not_eq_true', decide_eq_true_eq] at this
    simp only [Bool.or_eq_true, Bool.not_eq_true']
    rcases this with h | h
    · exact .inl h
    · right
      have := hmin _ h
      simp only [Array.getD]
      have hh := (Array.getElem?_eq_some_iff.1 this)
      rw [dif_pos hh.1]
      simpa using hh.2

theorem lin_step {ops : Array Oper} {listed : Array Bool} {acc : List Nat} (h : Lin ops listed acc) {i : Nat} (hi : i ∈ ready ops listed) : Lin ops (listed.setIfInBounds i true) (i :: acc) := by
  obtain ⟨h1, ds, h2, h3⟩ := ready_mem hi
  have hlt := (Array.getElem?_eq_some_iff.1 h1).1
  have hni : i ∉ acc := fun hm => by have := (h.mem i).1 hm; rw [h1] at this; cases this
  refine ⟨by simpa using h.size, List.nodup_cons.2 ⟨hni, h.nodup⟩, fun j => ?_, fun p k j ds' hp hk hj => ?_⟩
  · rw [List.mem_cons, h.mem j, Array.getElem?_setIfInBounds]
    by_cases e : i = j
    · subst e; simp [hlt]
    · rw [if_neg e]; simp [Ne.symm e]
  · rw [List.reverse_cons] at hp ⊢
    rcases Nat.lt_or_ge p acc.reverse.length with hpl | hpg
    · rw [List.getElem?_append_left hpl] at hp
      obtain ⟨q, q1, q2⟩ := h.before p k j ds' hp hk hj
      exact ⟨q, q1, by rw [List.getElem?_append_left (by omega)]; exact q2⟩
    · rw [List.getElem?_append_right hpg] at hp
      have hp0 : p - acc.reverse.length = 0 := by
        rcases Nat.eq_zero_or_pos (p - acc.reverse.length) with h | h
        · exact h
        · rw [List.getElem?_eq_none (by simp at h ⊢; omega)] at hp; cases hp
      rw [hp0] at hp
      simp at hp
      subst hp
      rw [h2] at hk
      injection hk with hk
      subst hk
      have hm : j ∈ acc.reverse := List.mem_reverse.2 ((h.mem j).2 (h3 j hj))
      obtain ⟨q, hq, hq'⟩ := List.mem_iff_getElem.1 hm
      exact ⟨q, by omega, by rw [List.getElem?_append_left hq, List.getElem?_eq_getElem hq, hq']⟩

theorem lin_ready {ops : Array Oper} {listed : Array Bool} {acc : List Nat} (h : Lin ops listed acc) (hb : depsBack ops = true) (hlen : acc.length < ops.size) : ready ops listed ≠ [] := by
  -- the least place that is not listed is ready
  have hex : ∃ i : Nat, listed[i]? = some false := by
    rcases Classical.em (∃ i : Nat, listed[i]? = some false) with h' | h'
    · exact h'
    · exfalso
      have hall : ∀ i, i < ops.size → i ∈ acc := fun i hi => by
        rw [h.mem]
        have hl : i < listed.size := by rw [h.size]; exact hi
        cases hv : listed[i] with
        | true => simp [hl, hv]
        | false => exact absurd ⟨i, by simp [hl, hv]⟩ h'
      have : (List.range ops.size).length ≤ acc.length := nodup_sub_len List.nodup_range (fun i hi => hall i (List.mem_range.1 hi))
      simp at this
      omega
  obtain ⟨i, hi⟩ := hex
  have hmin : ∃ i : Nat, listed[i]? = some false ∧ ∀ j, j < i → listed[j]? = some true := by
    induction i using Nat.strongRecOn with
    | _ i ih =>
      by_cases hj : ∃ j, j < i ∧ listed[j]? = some false
      · obtain ⟨j, hj1, hj2⟩ := hj
        exact ih j hj1 hj2
      · refine ⟨i, hi, fun j hj1 => ?_⟩
        have hlt : j < listed.size := by have := (Array.getElem?_eq_some_iff.1 hi).1; omega
        cases hv : listed[j] with
        | true => simp [hlt, hv]
        | false => exact absurd ⟨j, hj1, by simp [hlt, hv]⟩ hj
  obtain ⟨i, hi1, hi2⟩ := hmin
  intro he
  have := ready_some h.size hb hi1 hi2
  rw [he] at this
  cases this

theorem lin_go {ops : Array Oper} (hb : depsBack ops = true) : ∀ (fuel t : Nat) (listed : Array Bool) (acc : List Nat), Lin ops listed acc → fuel + acc.length = ops.size → ∃ listed' acc', Region.linearise.go .any ops fuel t listed acc = acc'.reverse ∧ Lin ops listed' acc' ∧ acc'.length = ops.size
  | 0, t, listed, acc, h, hl => ⟨listed, acc, rfl, h, by omega⟩
  | fuel + 1, t, listed, acc, h, hl => by
    have hr := lin_ready h hb (by omega)
    have hrs : (List.range ops.size).filter (fun i => !listed.getD i true && ((ops[i]?).map (·.after.all fun e => !Region.binds .any e || listed.getD e.on false)).getD false) = ready ops listed := rfl
    simp only [Region.linearise.go, hrs]
    have hlt : t % (ready ops listed).length < (ready ops listed).length := Nat.mod_lt _ (List.length_pos_iff.2 hr)
    rw [List.getElem?_eq_getElem hlt]
    simp only []
    exact lin_go hb fuel _ _ _ (lin_step h (List.getElem_mem hlt)) (by simp; omega)

theorem schedule_valid {ops : Array Oper} (hb : depsBack ops = true) (t : Nat) : Valid (depsOf ops) (Region.schedule true ops t) := by
  have h0 : Lin ops (Array.replicate ops.size false) [] := ⟨by simp, List.nodup_nil, fun i => by simp [Array.getElem?_replicate], fun p i j ds hp => by simp at hp⟩
  obtain ⟨listed', acc', h1, h2, h3⟩ := lin_go hb ops.size t _ [] h0 (by simp)
  have hs : Region.schedule true ops t = acc'.reverse := by
    simp only [Region.schedule, Bool.true_or, if_true, Region.linearise]
    exact h1
  rw [hs]
  have hd : (depsOf ops).length = ops.size := by simp [depsOf]
  refine ⟨?_, h2.before⟩
  rw [hd]
  have hsub : acc' ⊆ List.range ops.size := fun i hi => by
    have := (h2.mem i).1 hi
    have := (Array.getElem?_eq_some_iff.1 this).1
    rw [h2.size] at this
    exact List.mem_range.2 this
  have hp : acc'.Perm (List.range ops.size) := nodup_sub_perm h2.nodup hsub (by simp [h3])
  exact (List.reverse_perm acc').trans hp

end Go.Am

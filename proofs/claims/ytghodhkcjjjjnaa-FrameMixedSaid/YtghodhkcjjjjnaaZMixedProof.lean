/- Proved here: called with any bytes a, b and any ints seq, inc and other, cashboxlaw04.FrameMixed returns true, and its arguments read behind the call as before. Conditions: none beyond the given statement (Rows.FrameMixedSaid). -/
import Derived.Test.YtghodhkcjjjjnaaRows
import Derived.Test.YtghodhkcjjjjnaaZMixed
import Derived.Test.YtghodhkcjjjjnaaZAmLaw
set_option linter.all false
namespace Go.Proofs.Ytghodhkcjjjjnaa
open Go.ChangeShapes Go.WideShapes Go.ChangeAt Go.RowKit Go.Am

theorem Try.own : ownKnob Try.prog.godebug = none := by kernel_rfl
theorem Try.cells5 : Try.prog.cellsOf 5 = 1 := by kernel_rfl
theorem Try.laidOut : laidOutB Try.prog = true := by kernel_rfl

set_option maxRecDepth 100000 in
theorem mixed_lifted (os : Os) (started : os.Started) (H : Type) (enc : TypeId × Value → H) :
    ReturnsInHanded {} Try.checked os 3 .any (Rows.frameMixedSpec.pre6 enc Try.prog Try.f3 Rows.frameMixedRow.domain false) (Rows.frameMixedSpec.post enc Try.prog Try.f3 false true false false) := by
  refine returnsInHanded_of_change (C := Try.checked) Try.own started (by kernel_rfl) Try.func3
    (ChangeSpec.witness6 (enc := enc) (C := Try.checked) false ⟨#[], #[.slice none 0 0, .slice none 0 0, .int .i64 0, .int .i64 0, .int .i64 0], []⟩ 8 (by kernel_rfl) (by kernel_rfl) (by kernel_rfl) (by kernel_rfl)) ?_
  intro W base args ds gs before hval0 hW _ _
  have hval : ∀ (j : Nat) t v, Try.f3.params[j]? = some t → args[j]? = some v → Value.okWide Try.prog W .any base t v := hval0
  have hW' := hW
  obtain ⟨p, q, hA0, hV, rfl, _, _⟩ := hW
  have hA : DataW.TrodAll enc Try.prog W 0 (fun _ => true) true Try.f3.params.toList args.toList ds p := hA0
  rw [Try.params3] at hA hval
  have hA' := hA
  obtain ⟨v0, vs0, d0, ds0, p0, q0, e0, rfl, rfl, h0, hA⟩ := trodAll_cons hA
  obtain ⟨v1, vs1, d1, ds1, p1, q1, rfl, rfl, rfl, h1, hA⟩ := trodAll_cons hA
  obtain ⟨v2, vs2, d2, ds2, p2, q2, rfl, rfl, rfl, h2, hA⟩ := trodAll_cons hA
  obtain ⟨v3, vs3, d3, ds3, p3, q3, rfl, rfl, rfl, h3, hA⟩ := trodAll_cons hA
  obtain ⟨v4, vs4, d4, ds4, p4, q4, rfl, rfl, rfl, h4, hA⟩ := trodAll_cons hA
  obtain ⟨rfl, rfl, rfl⟩ := trodAll_nil hA
  have ea : args = #[v0, v1, v2, v3, v4] := by cases args; simp_all
  subst ea
  obtain ⟨rfl, rfl⟩ := trodVars_none hV
  obtain ⟨a, r0, _⟩ := open_bytes Try.underlying22 Try.underlying5 Try.cells5 (hval 0 22 v0 rfl rfl) h0
  obtain ⟨b, r1, _⟩ := open_bytes Try.underlying22 Try.underlying5 Try.cells5 (hval 1 22 v1 rfl rfl) h1
  obtain ⟨n2, r2⟩ := open_int_av Try.underlying3 (hval 2 3 v2 rfl rfl)
  obtain ⟨n3, r3⟩ := open_int_av Try.underlying3 (hval 3 3 v3 rfl rfl)
  obtain ⟨n4, r4⟩ := open_int_av Try.underlying3 (hval 4 3 v4 rfl rfl)
  clear hA0 hval0
  refine (law_calls (P := Try.checked.prog) (mixed_spec a b n2 n3 n4) (listRel_cons r0 (listRel_cons r1 (listRel_cons r2 (listRel_cons r3 (listRel_cons r4 listRel_nil)))))).mono fun e W' ⟨he, hb⟩ => ?_
  subst he
  exact ⟨_, rfl, _, _, _, _, _, _, hW', trodAll_mk1 (shut_bool Try.underlying4 true), trodAll_below Try.laidOut hb (by kernel_rfl) hA' (fun x hx => hW'.lt x (by simpa using hx)), rfl, hb.frame _, fun h => by cases h⟩

theorem FrameMixed_holds : Rows.FrameMixedSaid :=
  OpenClaim.holds_of_wide 3 Try.f3 rfl rfl rfl rfl rfl rfl rfl ⟨rfl, rfl, rfl, rfl, rfl⟩ rfl rfl rfl rfl rfl (by kernel_rfl) Try.func3 (by kernel_rfl)
    (of_decide_eq_true (by kernel_rfl)) (by unfold Func.isWrapper; first | (rw [if_pos (by decide +kernel)]; kernel_rfl) | (rw [if_neg (by decide +kernel)]; exact ⟨rfl, rfl⟩))
    (fun os started H enc _ => mixed_lifted os started H enc)
end Go.Proofs.Ytghodhkcjjjjnaa

/- Proved here: called with any mail f and bytes b, cashboxlaw16.FabricBytes returns true, and its arguments read behind the call as before. Conditions: none beyond the given statement (Rows.FabricBytesSaid). -/
import Derived.Test.YtjceilhmgbdgiaaRows
import Derived.Test.YtjceilhmgbdgiaaZGG
import Derived.Test.YtjceilhmgbdgiaaZAmRead
set_option linter.all false
namespace Go.Proofs.Ytjceilhmgbdgiaa
open Go.ChangeShapes Go.WideShapes Go.ChangeAt Go.RowKit Go.Am

theorem Try.own : ownKnob Try.prog.godebug = none := by kernel_rfl
theorem Try.laidOut : laidOutB Try.prog = true := by kernel_rfl

set_option maxRecDepth 100000 in
theorem fabricBytes_lifted (os : Os) (started : os.Started) (H : Type) (enc : TypeId × Value → H) :
    ReturnsInHanded {} Try.checked os 8 .any (Rows.fabricBytesSpec.pre6 enc Try.prog Try.f8 Rows.fabricBytesRow.domain false) (Rows.fabricBytesSpec.post enc Try.prog Try.f8 false true false false) := by
  refine returnsInHanded_of_change (C := Try.checked) Try.own started (by kernel_rfl) Try.func8
    (ChangeSpec.witness6 (enc := enc) (C := Try.checked) false ⟨#[], #[.agg #[.slice none 0 0], .slice none 0 0], []⟩ 8 (by kernel_rfl) (by kernel_rfl) (by kernel_rfl) (by kernel_rfl)) ?_
  intro W base args ds gs before hval0 hW _ _
  have hval : ∀ (j : Nat) t v, Try.f8.params.toList[j]? = some t → args.toList[j]? = some v → Value.okWide Try.prog W .any base t v := fun j t v h1 h2 => hval0 j t v (by simpa using h1) (by simpa using h2)
  have hW' := hW
  obtain ⟨p, q, hA0, hV, rfl, _, _⟩ := hW
  have hA : DataW.TrodAll enc Try.prog W 0 (fun _ => true) true Try.f8.params.toList args.toList ds p := hA0
  rw [Try.params8] at hA hval
  obtain ⟨rfl, rfl⟩ := trodVars_none hV
  obtain ⟨avs, hr, hs⟩ := open_all (by kernel_rfl) hA hval
  have hlen := trodAll_len hA
  simp only [List.append_nil] at hW'
  have hlt : ∀ x ∈ p, x.block < W.heap.size := fun x hx => by simpa using hW'.lt x (by simpa using hx)
  refine (law_calls (P := Try.checked.prog) (fun st => lbytes_avs avs hs st) hr).mono fun e W' ⟨he, hb⟩ => ?_
  subst he
  have hB := trodAll_below Try.laidOut hb (by kernel_rfl) hA hlt
  rcases ds with _ | ⟨d0, _ | ⟨d1, _ | ⟨_, _⟩⟩⟩ <;> simp at hlen
  refine ⟨_, rfl, _, _, _, _, _, _, hW', trodAll_mk1 (shut_bool Try.underlying4 true), hB, rfl, hb.frame _, fun h => by cases h⟩

theorem FabricBytes_holds : Rows.FabricBytesSaid :=
  OpenClaim.holds_of_wide 8 Try.f8 rfl rfl rfl rfl rfl rfl rfl ⟨rfl, rfl, rfl, rfl, rfl⟩ rfl rfl rfl rfl rfl (by kernel_rfl) Try.func8 (by kernel_rfl)
    (of_decide_eq_true (by kernel_rfl)) (by unfold Func.isWrapper; first | (rw [if_pos (by decide +kernel)]; kernel_rfl) | (rw [if_neg (by decide +kernel)]; exact ⟨rfl, rfl⟩))
    (fun os started H enc _ => fabricBytes_lifted os started H enc)
end Go.Proofs.Ytjceilhmgbdgiaa

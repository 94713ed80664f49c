/- The statement WalksKnown holds of the given program: the examples of the chapter, a ring of 64 states and the machines of a counter; it returns true. Conditions: none beyond the given row's own cells. -/
import Derived.Test.YteooegmokbbeoaaGauRx
import Derived.Test.YteooegmokbbeoaaGauJh
set_option linter.unusedVariables false
set_option linter.unusedSimpArgs false
set_option maxRecDepth 100000
namespace Go.AM
open Go Go.Proofs Go.ChangeShapes Go.WideShapes Go.ChangeAt Go.RowKit
open Yteooegmokbbeoaa
theorem Zjo (os : Os) (started : os.Started) (H : Type) (enc : TypeId × Value → H) :
    ReturnsInHanded Rows.walksKnownRow.assume Try.checked os 8 .any (Rows.walksKnownSpec.pre6 enc Try.prog Try.f8 Rows.walksKnownRow.domain false) (Rows.walksKnownSpec.post enc Try.prog Try.f8 false true false false) := by
  refine returnsInHanded_of_change (C := Try.checked) Yfb started (by kernel_rfl) Try.func8
    (ChangeSpec.witness6 (enc := enc) (C := Try.checked) false ⟨#[], #[], []⟩ 8 (by kernel_rfl) (by kernel_rfl) (by kernel_rfl) (by kernel_rfl)) ?_
  intro W base args ds gs before hval0 hW hcnd _
  have hval : ∀ (j : Nat) t v, Try.f8.params[j]? = some t → args[j]? = some v → Value.okWide Try.prog W .any base t v := hval0
  have hW' := hW
  obtain ⟨p, q, hA0, hV, rfl, hfz, hnd⟩ := hW
  have hA : DataW.TrodAll enc Try.prog W 0 (fun _ => true) true Try.f8.params.toList args.toList ds p := hA0
  rw [Try.params8] at hA hval
  obtain ⟨rfl, rfl, rfl⟩ := trodAll_none hA
  obtain ⟨rfl, rfl⟩ := trodVars_none hV
  clear hA0 hval0
  simp only [List.append_nil] at hW'
  have c := f84 
  refine (Ybr c (W := W) (xs := #[]) Ycy).mono fun e W' ⟨x, he, hiso⟩ => ?_
  obtain ⟨hm, rfl⟩ := Ybd hiso
  refine ⟨_, he, Zux rfl hm hW' (fun _ _ _ => trodAll_mk1 (shut_bool Try.underlying4 true)) ?_ rfl⟩
  exact trodAll_mk0
theorem walksKnown_said : Rows.WalksKnownSaid :=
  OpenClaim.holds_of_wide 8 Try.f8 rfl rfl rfl rfl rfl rfl rfl ⟨rfl, rfl, rfl, rfl, rfl⟩ rfl rfl rfl rfl rfl (by kernel_rfl) Try.func8 (by kernel_rfl)
    (of_decide_eq_true (by kernel_rfl)) (by unfold Func.isWrapper; first | (rw [if_pos (by decide +kernel)]; kernel_rfl) | (rw [if_neg (by decide +kernel)]; exact ⟨rfl, rfl⟩))
    (fun os started H enc _ => Zjo os started H enc)
end Go.AM
namespace Go.Proofs.Yteooegmokbbeoaa
/-- The statement WalksKnown holds of the given program: the examples of the chapter, a ring of 64 states and the machines of a counter; it returns true. Conditions: none beyond the given row's own cells. -/
theorem known_holds : Rows.WalksKnownSaid := Go.AM.walksKnown_said
end Go.Proofs.Yteooegmokbbeoaa

/- The statement WalksAccess holds of the given program, for every machine of numbers: it returns true and leaves its argument as it was. Conditions: none beyond the given row's own cells. -/
import Derived.Test.YteooegmokbbeoaaGauMa
import Derived.Test.YteooegmokbbeoaaGauHd
set_option linter.unusedVariables false
set_option linter.unusedSimpArgs false
set_option maxRecDepth 100000
namespace Go.AM
open Go Go.Proofs Go.ChangeShapes Go.WideShapes Go.ChangeAt Go.RowKit
open Yteooegmokbbeoaa
theorem access_lifted (os : Os) (started : os.Started) (H : Type) (enc : TypeId × Value → H) :
    ReturnsInHanded Rows.walksAccessRow.assume Try.checked os 3 .any (Rows.walksAccessSpec.pre6 enc Try.prog Try.f3 Rows.walksAccessRow.domain false) (Rows.walksAccessSpec.post enc Try.prog Try.f3 false true false false) := by
  refine returnsInHanded_of_change (C := Try.checked) Try_own started (by kernel_rfl) Try.func3
    (ChangeSpec.witness6 (enc := enc) (C := Try.checked) false ⟨#[], #[.agg #[.int .u8 0, .int .u8 0, .int .u8 0, .bool false, .slice none 0 0]], []⟩ 8 (by kernel_rfl) (by kernel_rfl) (by kernel_rfl) (by kernel_rfl)) ?_
  intro W base args ds gs before hval0 hW hcnd _
  have hval : ∀ (j : Nat) t v, Try.f3.params[j]? = some t → args[j]? = some v → Value.okWide Try.prog W .any base t v := hval0
  have hW' := hW
  obtain ⟨p, q, hA0, hV, rfl, hfz, hnd⟩ := hW
  have hA : DataW.TrodAll enc Try.prog W 0 (fun _ => true) true Try.f3.params.toList args.toList ds p := hA0
  rw [Try.params3] at hA hval
  obtain ⟨v0, d0, rfl, rfl, h0⟩ := trodAll_one hA
  obtain ⟨rfl, rfl⟩ := trodVars_none hV
  obtain ⟨S, I, O, b, es, ke, hS, hI, hO, hes, hr⟩ := open_M rfl (hval 0 24 v0 rfl rfl) h0
  clear hA0 hval0
  simp only [List.append_nil] at hW'
  have c := f78 S I O b es ke hes
  refine (calls_of c (W := W) (xs := #[v0]) (rl_cons hr rl_nil)).mono fun e W' ⟨x, he, hiso⟩ => ?_
  obtain ⟨hm, rfl⟩ := iso_true hiso
  have hlt : ∀ y ∈ p, y.block < W.heap.size := fun y hy => hW'.lt y (by simpa using hy)
  refine ⟨_, he, post_moved rfl hm hW' (fun _ _ _ => trodAll_mk1 (shut_bool Try.underlying4 true)) ?_ rfl⟩
  have := trodAll_mk1 (Below.trod Try_laidOut (by kernel_rfl) (of_decide_eq_true (by kernel_rfl)) h0 (moved_below hm) hlt)
  simp only [List.append_nil] at this ⊢
  exact this
theorem access_said : Rows.WalksAccessSaid :=
  OpenClaim.holds_of_wide 3 Try.f3 rfl rfl rfl rfl rfl rfl rfl ⟨rfl, rfl, rfl, rfl, rfl⟩ rfl rfl rfl rfl rfl (by kernel_rfl) Try.func3 (by kernel_rfl)
    (of_decide_eq_true (by kernel_rfl)) (by unfold Func.isWrapper; first | (rw [if_pos (by decide +kernel)]; kernel_rfl) | (rw [if_neg (by decide +kernel)]; exact ⟨rfl, rfl⟩))
    (fun os started H enc _ => access_lifted os started H enc)
end Go.AM
namespace Go.Proofs.Yteooegmokbbeoaa
/-- Access words are the least ones, and prefixes of them are access words; Reach tells which states have one. -/
theorem access_holds : Rows.WalksAccessSaid := Go.AM.access_said
end Go.Proofs.Yteooegmokbbeoaa

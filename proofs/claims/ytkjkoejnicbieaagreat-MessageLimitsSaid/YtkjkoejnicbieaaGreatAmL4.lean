/-
  PROVED HERE: 'MessageLimits' answers true for every two bools, and leaves both as they read. Conditions: none beside those that the given row itself bears.
-/
import Derived.Test.YtkjkoejnicbieaaGreatAmO2
import Derived.Test.YtkjkoejnicbieaaGreatAmB4
import Derived.OpenShut
namespace Go.Proofs.YtkjkoejnicbieaaGreat.AM
open Go Go.RowKit Go.ChangeShapes Go.WideShapes Go.ChangeAt

theorem und4 : Tryz.prog.underlying 4 = some .bool := by kernel_rfl

set_option maxRecDepth 100000 in
theorem limits_lifted (os : Os) (started : os.Started) (H : Type) (enc : TypeId × Value → H) :
    ReturnsInHanded {} Tryz.checked os 4 .any (Rows.messageLimitsSpec.pre6 enc Tryz.prog Tryz.f4 Rows.messageLimitsRow.domain false) (Rows.messageLimitsSpec.post enc Tryz.prog Tryz.f4 false true false false) := by
  refine returnsInHanded_of_change (C := Tryz.checked) own7 started (by kernel_rfl) Tryz.func4
    (ChangeSpec.witness6 (enc := enc) (C := Tryz.checked) false ⟨#[], #[.bool true, .bool true], []⟩ 8 (by kernel_rfl) (by kernel_rfl) (by kernel_rfl) (by kernel_rfl)) ?_
  intro W base args ds gs before hval0 hW _ _
  have hval : ∀ (j : Nat) t v, Tryz.f4.params[j]? = some t → args[j]? = some v → Value.okWide Tryz.prog W .any base t v := hval0
  clear hval0
  have hW' : DataW.Whole enc Tryz.prog Tryz.f4.params.toList Rows.messageLimitsSpec.vars false W args.toList ds gs before := hW
  obtain ⟨p, q, hA0, hV, rfl, _, _⟩ := hW
  have hA : DataW.TrodAll enc Tryz.prog W 0 (fun _ => true) true Tryz.f4.params.toList args.toList ds p := hA0
  rw [Tryz.params4] at hA hval
  obtain ⟨v0, vs0, d0, ds0, p0, q0, hargs, rfl, rfl, h0, r0⟩ := trodAll_cons hA
  obtain ⟨v1, vs1, d1, ds1, p1, q1, rfl, rfl, rfl, h1, r1⟩ := trodAll_cons r0
  obtain ⟨rfl, rfl, rfl⟩ := trodAll_nil r1
  obtain rfl : args = #[v0, v1] := by cases args; simp_all
  obtain ⟨rfl, rfl⟩ := trodVars_none hV
  clear hA hA0 hargs r0 r1 hV
  obtain ⟨a, rfl, rfl, rfl⟩ := open_bool und4 (hval 0 4 v0 rfl rfl) h0
  obtain ⟨f, rfl, rfl, rfl⟩ := open_bool und4 (hval 1 4 v1 rfl rfl) h1
  have I := Inv.empty W
  refine (calls_true Tryz.func4 rfl I (l := [.bool a, .bool f]) (args := #[.bool a, .bool f]) (.cons (.bool a) (.cons (.bool f) .nil)) (limits_c a f I.fr)).mono fun e W' ⟨he, hb⟩ => ?_
  subst he
  refine ⟨_, rfl, law_post rfl (by kernel_rfl) und4 hW' rfl hb fun sp hsp => ?_⟩
  rw [Tryz.params4]
  exact trodAll_cons_mk (shut_bool und4 a) (trodAll_cons_mk (shut_bool und4 f) trodAll_mk0)

theorem messageLimits_holds : Rows.MessageLimitsSaid :=
  OpenClaim.holds_of_wide 4 Tryz.f4 rfl rfl rfl rfl rfl rfl rfl ⟨rfl, rfl, rfl, rfl, rfl⟩ rfl rfl rfl rfl rfl (by kernel_rfl) Tryz.func4 (by kernel_rfl)
    (of_decide_eq_true (by kernel_rfl)) (by unfold Func.isWrapper; first | (rw [if_pos (by decide +kernel)]; kernel_rfl) | (rw [if_neg (by decide +kernel)]; exact ⟨rfl, rfl⟩))
    (fun os started H enc _ => limits_lifted os started H enc)
end Go.Proofs.YtkjkoejnicbieaaGreat.AM

/-
  PROVED HERE: 'MessageBack' answers true for every message and every text, and leaves both as they read. Conditions: none beside those that the given row itself bears.
-/
import Derived.Test.YtkjkoejnicbieaaGreatAmO2
import Derived.Test.YtkjkoejnicbieaaGreatAmB2
import Derived.OpenShut
namespace Go.Proofs.YtkjkoejnicbieaaGreat.AM
open Go Go.RowKit Go.ChangeShapes Go.WideShapes Go.ChangeAt

theorem und4 : Tryz.prog.underlying 4 = some .bool := by kernel_rfl
theorem read22 : Tryz.prog.readableRec 22 = true := by kernel_rfl
theorem row22 : 22 < Tryz.prog.types.size := of_decide_eq_true (by kernel_rfl)
theorem read9 : Tryz.prog.readableRec 9 = true := by kernel_rfl
theorem row9 : 9 < Tryz.prog.types.size := of_decide_eq_true (by kernel_rfl)

set_option maxRecDepth 100000 in
theorem back_lifted (os : Os) (started : os.Started) (H : Type) (enc : TypeId × Value → H) :
    ReturnsInHanded {} Tryz.checked os 5 .any (Rows.messageBackSpec.pre6 enc Tryz.prog Tryz.f5 Rows.messageBackRow.domain false) (Rows.messageBackSpec.post enc Tryz.prog Tryz.f5 false true false false) := by
  refine returnsInHanded_of_change_sized (C := Tryz.checked) own7 started (by kernel_rfl) Tryz.func5
    (ChangeSpec.witness6 (enc := enc) (C := Tryz.checked) false ⟨#[], #[.slice none 0 0, .string ⟨#[]⟩], []⟩ 8 (by kernel_rfl) (by kernel_rfl) (by kernel_rfl) (by kernel_rfl)) ?_
  intro W base args ds gs before hval0 hW _ hsz0 _
  have hval : ∀ (j : Nat) t v, Tryz.f5.params[j]? = some t → args[j]? = some v → Value.okWide Tryz.prog W .any base t v := hval0
  have hsz : (DataW.weightsEach Tryz.prog (Tryz.f5.params.toList ++ Rows.messageBackSpec.plain.varTypes Tryz.prog) (ds ++ gs)).all (· ≤ reachBytes) = true := hsz0
  clear hval0 hsz0
  have hW' : DataW.Whole enc Tryz.prog Tryz.f5.params.toList Rows.messageBackSpec.vars false W args.toList ds gs before := hW
  obtain ⟨p, q, hA0, hV, rfl, _, _⟩ := hW
  have hA : DataW.TrodAll enc Tryz.prog W 0 (fun _ => true) true Tryz.f5.params.toList args.toList ds p := hA0
  rw [Tryz.params5] at hA hval hsz
  obtain ⟨v0, vs0, d0, ds0, p0, q0, hargs, rfl, rfl, h0, r0⟩ := trodAll_cons hA
  obtain ⟨v1, vs1, d1, ds1, p1, q1, rfl, rfl, rfl, h1, r1⟩ := trodAll_cons r0
  obtain ⟨rfl, rfl, rfl⟩ := trodAll_nil r1
  obtain rfl : args = #[v0, v1] := by cases args; simp_all
  obtain ⟨rfl, rfl⟩ := trodVars_none hV
  clear hA hA0 hargs r0 r1 hV
  obtain ⟨a0, len, cap, rfl⟩ := okWide_slice un22 (hval 0 22 v0 rfl rfl)
  obtain ⟨s1, rfl⟩ := okWide_string un9 (hval 1 9 v1 rfl rfl)
  have hw0 : ∀ n ∈ d0.weights Tryz.prog 22, n ≤ reachBytes := fun n hn => by
    have := List.all_eq_true.1 hsz n (DataW.weights_mem_each (j := 0) (t := 22) (d := d0) rfl rfl n hn)
    simpa using this
  obtain ⟨m, hok, φ, hp, nx, u, I, _, hu, hrd⟩ := open_arg opens22 rfl h0 hw0 (fun _ _ _ h => rdRow_one h) (Inv.empty W)
  have hlt := hW'.lt
  refine (calls_true Tryz.func5 rfl I (args := #[.slice a0 len cap, .string s1]) (.cons hu (.cons (.string s1) .nil)) (back_c (rd22_msg hrd) (ok22_fits hok) I.fr)).mono fun e W' ⟨he, hb⟩ => ?_
  subst he
  refine ⟨_, rfl, law_post rfl (by kernel_rfl) und4 hW' rfl hb fun sp hsp => ?_⟩
  rw [Tryz.params5]
  simp only [List.append_nil, List.mem_append] at hlt hsp ⊢
  have := trodAll_cons_mk (WideElems.Trod_stays laidOut7 read22 row22 h0 (fun x hx => hb.same (hlt x (.inl hx))) (fun x hx => hsp x (.inl hx)))
    (trodAll_cons_mk (WideElems.Trod_stays laidOut7 read9 row9 h1 (fun x hx => hb.same (hlt x (.inr hx))) (fun x hx => hsp x (.inr hx))) (trodAll_mk0 (enc := enc) (P := Tryz.prog) (w := W')))
  rwa [List.append_nil] at this

theorem messageBack_holds : Rows.MessageBackSaid :=
  OpenClaim.holds_of_wide 5 Tryz.f5 rfl rfl rfl rfl rfl rfl rfl ⟨rfl, rfl, rfl, rfl, rfl⟩ rfl rfl rfl rfl rfl (by kernel_rfl) Tryz.func5 (by kernel_rfl)
    (of_decide_eq_true (by kernel_rfl)) (by unfold Func.isWrapper; first | (rw [if_pos (by decide +kernel)]; kernel_rfl) | (rw [if_neg (by decide +kernel)]; exact ⟨rfl, rfl⟩))
    (fun os started H enc _ => back_lifted os started H enc)
end Go.Proofs.YtkjkoejnicbieaaGreat.AM

/-
  PROVED HERE: 'MessageFeeds' answers true for every message and every row of bytes, and leaves both as they read. Conditions: none beside those that the given row itself bears.
-/
import Derived.Test.YtkjkoejnicbieaaGreatAmO2
import Derived.Test.YtkjkoejnicbieaaGreatAmB3
import Derived.OpenShut
namespace Go.Proofs.YtkjkoejnicbieaaGreat.AM
open Go Go.RowKit Go.ChangeShapes Go.WideShapes Go.ChangeAt

theorem und4 : Tryz.prog.underlying 4 = some .bool := by kernel_rfl
theorem read22 : Tryz.prog.readableRec 22 = true := by kernel_rfl
theorem row22 : 22 < Tryz.prog.types.size := of_decide_eq_true (by kernel_rfl)
theorem read34 : Tryz.prog.readableRec 34 = true := by kernel_rfl
theorem row34 : 34 < Tryz.prog.types.size := of_decide_eq_true (by kernel_rfl)
theorem by5 : 0 < Tryz.prog.bytesOf 5 := by rw [show Tryz.prog.bytesOf 5 = 1 by kernel_rfl]; decide

section
variable {H : Type} {enc : TypeId × Value → H} {W : World}
def Rd5 (_ : Tr AObj) (us : List Value) (c : UInt8) : Prop := us = [.int .u8 (c.toNat : Int)]
def Rd34 := RdRow 1 (0 : UInt8) Rd5
theorem opens5 : Opens enc Tryz.prog W 5 1 Rd5 (fun _ => True) := by
  intro fuel cs d ps h _
  obtain ⟨n, rfl, hx, hwf⟩ := DataW.trod_int un5 h
  cases hx
  have hn : 0 ≤ n ∧ n ≤ 255 := by simpa [Lit.wf, IntKind.min, IntKind.max, IntKind.signed, IntKind.bits] using hwf
  have e : ((UInt8.ofNat n.toNat).toNat : Int) = n := by simp; omega
  refine ⟨UInt8.ofNat n.toNat, trivial, rfl, fun φ hp nx I => ⟨φ, hp, nx, [.int .u8 n], I, Up.refl _ _ _, .cons (.int .u8 n) .nil, ?_⟩⟩
  unfold Rd5
  rw [e]
theorem opens34 : Opens enc Tryz.prog W 34 1 Rd34 (fun l => l.length ≤ reachBytes ∧ ∀ x ∈ l, True) := opens_slice un34 cells5 (by decide) by5 (fun _ _ _ _ h _ => h) opens5
end

theorem rd34_bytes {hp : Tr AObj} {u : Value} {l : List UInt8} (h : Rd34 hp [u] l) : RdBytes hp u l := by
  obtain ⟨ba, cap, hu, h⟩ := h
  cases hu
  refine ⟨ba, cap, rfl, fun h0 => ?_⟩
  obtain ⟨b, c, e, fz, ro, hd, h1, h2, h3⟩ := h h0
  refine ⟨b, 0, c, e, fz, ro, hd, h1, h2, fun i hi => ?_⟩
  exact ⟨_, by rw [Nat.zero_add]; exact take_one (h3 i hi), rfl⟩

theorem cap_of {φ : Ren} {ba a0 : Option Addr} {n ca len cap : Nat} (h : VRel φ (.slice ba n ca) (.slice a0 len cap)) (h1 : len ≤ cap) (h2 : cap < OPEN) : n ≤ ca ∧ ca < OPEN ∨ ca = OPEN := by
  cases h with
  | snil n c => exact .inl ⟨h1, h2⟩
  | slice h hc => exact .inl ⟨h1, h2⟩
  | sopen h a b c d => exact .inr rfl
  | szero a b => exact .inl ⟨h1, h2⟩

theorem cap_read {H : Type} {enc : TypeId × Value → H} {W : World} {a0 : Option Addr} {len cap : Nat} {d : DataW H} {ps : List MemPlace} (h : DataW.Trod enc Tryz.prog W 0 (fun _ => true) true 22 (.slice a0 len cap) d ps) : len ≤ cap ∧ cap < OPEN := by
  obtain ⟨fuel, h⟩ := h
  have hm : maxLen < OPEN := by decide
  rcases DataW.trod_slice un22 h with ⟨hc, _⟩ | ⟨a, l, c, el, re, n, _, hc, _, _, h1, h2, _⟩
  · have hc' : [Value.slice a0 len cap] = [.slice none 0 0] := hc
    cases hc'
    exact ⟨Nat.le_refl _, by decide⟩
  · have hc' : [Value.slice a0 len cap] = [.slice (some a) l c] := hc
    cases hc'
    exact ⟨h1, by omega⟩

set_option maxRecDepth 100000 in
theorem feeds_lifted (os : Os) (started : os.Started) (H : Type) (enc : TypeId × Value → H) :
    ReturnsInHanded {} Tryz.checked os 6 .any (Rows.messageFeedsSpec.pre6 enc Tryz.prog Tryz.f6 Rows.messageFeedsRow.domain false) (Rows.messageFeedsSpec.post enc Tryz.prog Tryz.f6 false true false false) := by
  refine returnsInHanded_of_change_sized (C := Tryz.checked) own7 started (by kernel_rfl) Tryz.func6
    (ChangeSpec.witness6 (enc := enc) (C := Tryz.checked) false ⟨#[], #[.slice none 0 0, .slice none 0 0], []⟩ 8 (by kernel_rfl) (by kernel_rfl) (by kernel_rfl) (by kernel_rfl)) ?_
  intro W base args ds gs before hval0 hW _ hsz0 _
  have hval : ∀ (j : Nat) t v, Tryz.f6.params[j]? = some t → args[j]? = some v → Value.okWide Tryz.prog W .any base t v := hval0
  have hsz : (DataW.weightsEach Tryz.prog (Tryz.f6.params.toList ++ Rows.messageFeedsSpec.plain.varTypes Tryz.prog) (ds ++ gs)).all (· ≤ reachBytes) = true := hsz0
  clear hval0 hsz0
  have hW' : DataW.Whole enc Tryz.prog Tryz.f6.params.toList Rows.messageFeedsSpec.vars false W args.toList ds gs before := hW
  obtain ⟨p, q, hA0, hV, rfl, _, _⟩ := hW
  have hA : DataW.TrodAll enc Tryz.prog W 0 (fun _ => true) true Tryz.f6.params.toList args.toList ds p := hA0
  rw [Tryz.params6] at hA hval hsz
  obtain ⟨v0, vs0, d0, ds0, p0, q0, hargs, rfl, rfl, h0, r0⟩ := trodAll_cons hA
  obtain ⟨v1, vs1, d1, ds1, p1, q1, rfl, rfl, rfl, h1, r1⟩ := trodAll_cons r0
  obtain ⟨rfl, rfl, rfl⟩ := trodAll_nil r1
  obtain rfl : args = #[v0, v1] := by cases args; simp_all
  obtain ⟨rfl, rfl⟩ := trodVars_none hV
  clear hA hA0 hargs r0 r1 hV
  obtain ⟨a0, len, cap, rfl⟩ := okWide_slice un22 (hval 0 22 v0 rfl rfl)
  obtain ⟨a1, len1, cap1, rfl⟩ := okWide_slice un34 (hval 1 34 v1 rfl rfl)
  have hw0 : ∀ n ∈ d0.weights Tryz.prog 22, n ≤ reachBytes := fun n hn => by
    have := List.all_eq_true.1 hsz n (DataW.weights_mem_each (j := 0) (t := 22) (d := d0) rfl rfl n hn)
    simpa using this
  have hw1 : ∀ n ∈ d1.weights Tryz.prog 34, n ≤ reachBytes := fun n hn => by
    have := List.all_eq_true.1 hsz n (DataW.weights_mem_each (j := 1) (t := 34) (d := d1) rfl rfl n hn)
    simpa using this
  obtain ⟨m, hok, φ, hp, nx, u, I, _, hu, hrd⟩ := open_arg opens22 rfl h0 hw0 (fun _ _ _ h => rdRow_one h) (Inv.empty W)
  obtain ⟨bs, _, φ2, hp2, nx2, u2, I2, U2, hu2, hrd2⟩ := open_arg opens34 rfl h1 hw1 (fun _ _ _ h => rdRow_one h) I
  have hrd' : Rd22 hp2 [u] m := rdRow_mono rd31_mono _ _ _ _ hrd U2.sub
  have hmsg := rd22_msg hrd'
  have hcap : ∃ ba ca, u = .slice ba m.length ca ∧ (m.length ≤ ca ∧ ca < OPEN ∨ ca = OPEN) := by
    obtain ⟨ba, ca, rfl, _⟩ := hmsg
    obtain ⟨c1, c2⟩ := cap_read h0
    exact ⟨ba, ca, rfl, cap_of hu c1 c2⟩
  have hlt := hW'.lt
  refine (calls_true Tryz.func6 rfl I2 (args := #[.slice a0 len cap, .slice a1 len1 cap1]) (.cons (hu.mono U2.le) (.cons hu2 .nil)) (feeds_c hmsg hcap (rd34_bytes hrd2) (ok22_fits hok) I2.fr)).mono fun e W' ⟨he, hb⟩ => ?_
  subst he
  refine ⟨_, rfl, law_post rfl (by kernel_rfl) und4 hW' rfl hb fun sp hsp => ?_⟩
  rw [Tryz.params6]
  simp only [List.append_nil, List.mem_append] at hlt hsp ⊢
  have := trodAll_cons_mk (WideElems.Trod_stays laidOut7 read22 row22 h0 (fun x hx => hb.same (hlt x (.inl hx))) (fun x hx => hsp x (.inl hx)))
    (trodAll_cons_mk (WideElems.Trod_stays laidOut7 read34 row34 h1 (fun x hx => hb.same (hlt x (.inr hx))) (fun x hx => hsp x (.inr hx))) (trodAll_mk0 (enc := enc) (P := Tryz.prog) (w := W')))
  rwa [List.append_nil] at this

theorem messageFeeds_holds : Rows.MessageFeedsSaid :=
  OpenClaim.holds_of_wide 6 Tryz.f6 rfl rfl rfl rfl rfl rfl rfl ⟨rfl, rfl, rfl, rfl, rfl⟩ rfl rfl rfl rfl rfl (by kernel_rfl) Tryz.func6 (by kernel_rfl)
    (of_decide_eq_true (by kernel_rfl)) (by unfold Func.isWrapper; first | (rw [if_pos (by decide +kernel)]; kernel_rfl) | (rw [if_neg (by decide +kernel)]; exact ⟨rfl, rfl⟩))
    (fun os started H enc _ => feeds_lifted os started H enc)
end Go.Proofs.YtkjkoejnicbieaaGreat.AM

/-
  THE ABSTRACT MACHINE AT SYMBOLIC STATES, part 4: calls that the machine runs to the end, out of nothing that is known; appends.
-/
import Derived.Test.YtkjkoejnicbieaaGreatAmW3
namespace Go.Proofs.YtkjkoejnicbieaaGreat.AM
open Go Go.RowKit

/-- What stands as it stood is known as it was. -/
theorem WRel.stay {φ : Ren} {hp : Tr AObj} {w w' : World} (h : WRel φ hp w) (hk : ∀ k, k < w.heap.size → w'.heap[k]? = w.heap[k]?) : WRel φ hp w' := by
  refine ⟨fun i o l hi hl => ?_, h.apart⟩
  have ho := h.obj i o l hi hl
  refine ho.keep (Ren.le_refl _) (hk _ ho.blk_lt) (MapsStep.of_same fun k es ck he => ?_)
  have hlt : k < w.heap.size := by
    rcases Nat.lt_or_ge k w.heap.size with h | h
    · exact h
    · rw [Array.getElem?_eq_none h] at he; cases he
  rw [hk k hlt]; exact he

theorem all_cst {φ : Ren} : ∀ {l : List Value} {args : List Value}, l.all (cst 8) = true → LRel φ l args → args = l := by
  intro l
  induction l with
  | nil => intro args _ h; cases h; rfl
  | cons v l ih =>
    intro args hc h
    cases h with
    | cons h1 t =>
      simp only [List.all_cons, Bool.and_eq_true] at hc
      rw [cst_eq hc.1 h1, ih hc.2 t]

theorem lrel_cst (φ : Ren) : ∀ {l : List Value}, l.all (cst 8) = true → LRel φ l l := by
  intro l
  induction l with
  | nil => intro _; exact .nil
  | cons v l ih =>
    intro hc
    simp only [List.all_cons, Bool.and_eq_true] at hc
    exact .cons (cst_rel φ 8 v hc.1) (ih hc.2)

/-- Is this what comes back: one value? -/
def oneV (o : Option (List Out)) (p : Value → Bool) : Bool :=
  match o with
  | some [⟨some v, _, _⟩] => p v
  | _ => false

/-- A call on values without an address that hands back such a value, run to the end by the machine. -/
theorem acall_closed {P : Program} {cf : CF} (hcf : CSound P 0 cf) {f : FuncId} {l : List Value} {v : Value} (h : oneV (cf f l .nil 0) (valEq 8 v) = true) (hl : l.all (cst 8) = true) (hv : cst 8 v = true) (hp : Tr AObj) (nx : Nat) :
    ACall P 0 f l hp nx (fun v' hp' nx' => v' = v ∧ hp' = hp ∧ nx' = nx) := by
  unfold oneV at h
  split at h
  · rename_i u hp0 nx0 hrun
    have e := valEq_eq 8 v u h
    subst e
    intro φ w args hG hla hw hb
    have ea := all_cst hl hla
    have hs := hcf f l .nil 0 _ hrun (fun _ => none) w args (fun g hg => absurd hg (Nat.not_lt_zero g)) (by rw [ea]; exact lrel_cst _ hl) ⟨fun i o l h => by simp [Tr.get_nil] at h, fun i j oi oj li lj _ h => by simp [Tr.get_nil] at h⟩ (fun i hi => absurd rfl hi)
    refine hs.mono fun v' w' ⟨r, hr, φ', v2, hv2, hx, _, _, hvv⟩ => ?_
    rw [List.mem_singleton.1 hr] at hv2 hx
    cases hv2
    have := cst_eq hv hvv
    subst this
    have hk : ∀ k, k < w.heap.size → w'.heap[k]? = w.heap[k]? := fun k hlt => hx.frame k hlt fun ⟨i, o, l, h1, _⟩ => by simp [Tr.get_nil] at h1
    exact ⟨_, hp, nx, ⟨rfl, rfl, rfl⟩, φ, ⟨Ren.le_refl _, hx.os, hx.tape, hx.output, hx.size, fun k hlt _ => hk k hlt, fun _ _ _ h1 h2 => born_same h1 h2⟩, hw.stay hk, hb, cst_rel φ 8 _ hv⟩
  · cases h
end Go.Proofs.YtkjkoejnicbieaaGreat.AM

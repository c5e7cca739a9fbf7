/-
  THE ABSTRACT MACHINE, part 23: the quick tables; what a run of the machine over them shows.
-/
import Derived.Test.YtkjkoejnicbieaaGreatAm22
namespace Go.Proofs.YtkjkoejnicbieaaGreat.AM
open Go Go.RowKit

/-- Every other one, from the first on. -/
def evens {α : Type} : List α → List α
  | [] => []
  | [x] => [x]
  | x :: _ :: xs => x :: evens xs

def odds {α : Type} : List α → List α
  | [] => []
  | [_] => []
  | _ :: y :: xs => y :: odds xs

theorem evens_get {α : Type} : ∀ (l : List α) (i : Nat), (evens l)[i]? = l[2 * i]?
  | [], i => by simp [evens]
  | [x], i => by cases i <;> simp [evens]
  | x :: y :: xs, 0 => rfl
  | x :: y :: xs, i + 1 => by
    simp only [evens, List.getElem?_cons_succ]
    rw [evens_get xs i, show 2 * (i + 1) = 2 * i + 1 + 1 from by omega]
    simp

theorem odds_get {α : Type} : ∀ (l : List α) (i : Nat), (odds l)[i]? = l[2 * i + 1]?
  | [], i => by simp [odds]
  | [x], i => by simp [odds]
  | x :: y :: xs, 0 => rfl
  | x :: y :: xs, i + 1 => by
    simp only [odds, List.getElem?_cons_succ]
    rw [odds_get xs i, show 2 * (i + 1) = 2 * i + 1 + 1 from by omega]
    simp

/-- A list as a tree; depth first. -/
def mkT {α : Type} : Nat → List α → Tr α
  | 0, _ => .nil
  | _ + 1, [] => .nil
  | d + 1, x :: xs => .node (mkT d (evens xs)) (some x) (mkT d (odds xs))

theorem evens_len {α : Type} : ∀ l : List α, (evens l).length ≤ l.length
  | [] => by simp [evens]
  | [x] => by simp [evens]
  | x :: y :: xs => by simp [evens]; have := evens_len xs; omega
theorem odds_len {α : Type} : ∀ l : List α, (odds l).length ≤ l.length
  | [] => by simp [odds]
  | [x] => by simp [odds]
  | x :: y :: xs => by simp [odds]; have := odds_len xs; omega

theorem mkT_get {α : Type} : ∀ (d : Nat) (l : List α), l.length ≤ d → ∀ i, (mkT d l).get i = l[i]? := by
  intro d
  induction d with
  | zero =>
    intro l h i
    have : l = [] := List.eq_nil_of_length_eq_zero (by omega)
    subst this
    simp [mkT, Tr.get_nil]
  | succ d ih =>
    intro l h i
    cases l with
    | nil => simp [mkT, Tr.get_nil]
    | cons x xs =>
      have hx : xs.length ≤ d := by simpa using h
      cases i with
      | zero => rfl
      | succ m =>
        simp only [mkT, Tr.get]
        cases hp : (m % 2 == 0) with
        | true =>
          simp only [cond_true]
          rw [ih _ (Nat.le_trans (evens_len xs) hx), evens_get]
          simp at hp
          rw [show 2 * (m / 2) = m from by omega]; simp
        | false =>
          simp only [cond_false]
          rw [ih _ (Nat.le_trans (odds_len xs) hx), odds_get]
          simp at hp
          rw [show 2 * (m / 2) + 1 = m from by omega]; simp

def Tab.fast (P : Program) : Tab :=
  ⟨fun t => match (mkT P.types.toList.length P.types.toList).get t with | some i => some i | none => P.info? t, fun f => (mkT P.funcs.toList.length P.funcs.toList).get f, P.concrete, P.eqGuardType P.depth, P.stoodInHeld⟩

theorem Tab.fast_eq (P : Program) : Tab.fast P = Tab.of P := by
  unfold Tab.fast Tab.of
  congr 1
  · funext t
    rw [mkT_get _ _ (Nat.le_refl _)]
    simp only [Array.getElem?_toList]
    cases h : P.types[t]? with
    | none => rfl
    | some i =>
      have hlt : t < P.types.size := (Array.getElem?_eq_some_iff.1 h).1
      show some i = P.info? t
      unfold Tables.info?
      rw [if_pos hlt, h]
  · funext f
    rw [mkT_get _ _ (Nat.le_refl _)]
    simp

/-- The machine over the quick tables. -/
def runB (T : Tab) (G fuel : Nat) (xf : XF) (n : Nat) : CF := callAB T G fuel xf n

theorem runB_sound {P : Program} {G fuel : Nat} {xf : XF} (hm : P.follows .mixedOrders = true) (hname : ∀ (f : Nat) (fn : Func), P.funcs[f]? = some fn → (fn.name == "runtime.NumGoroutine") = false) (hx : CSound P G xf) (n : Nat) : CSound P G (runB (Tab.fast P) G fuel xf n) := by
  unfold runB
  rw [Tab.fast_eq, callAB_eq]
  exact callA_sound hm hname hx n
end Go.Proofs.YtkjkoejnicbieaaGreat.AM

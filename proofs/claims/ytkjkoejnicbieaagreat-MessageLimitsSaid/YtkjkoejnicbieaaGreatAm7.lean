/-
  THE ABSTRACT MACHINE, part 7: a single quiet operation: what it computes, what it lays; and what the model does there.
-/
import Derived.Test.YtkjkoejnicbieaaGreatAm6
namespace Go.Proofs.YtkjkoejnicbieaaGreat.AM
open Go Go.RowKit

/-! ### Equality of whatever may be compared -/
def eqTop (P : Program) (t : TypeId) (x y : Value) : Option Bool :=
  match x, y with
  | .pointer none, .pointer b => match P.underlying t with
    | some (.pointer _) => some b.isNone
    | _ => none
  | .pointer (some _), .pointer none => match P.underlying t with
    | some (.pointer _) => some false
    | _ => none
  | .pointer (some ⟨b, o, none⟩), .pointer (some ⟨b2, o2, none⟩) => match P.underlying t with
    | some (.pointer e) => match szOf P e with
      | some (_ + 1) => bif Nat.beq b b2 then some (Nat.beq o o2) else none
      | _ => none
    | _ => none
  | .slice none _ _, .slice b _ _ => match P.underlying t with
    | some (.slice _) => some b.isNone
    | _ => none
  | .slice (some _) _ _, .slice none _ _ => match P.underlying t with
    | some (.slice _) => some false
    | _ => none
  | .map none, .map b => match P.underlying t with
    | some (.map _ _) => some b.isNone
    | _ => none
  | .map (some _), .map none => match P.underlying t with
    | some (.map _ _) => some false
    | _ => none
  | .nilFunc, .nilFunc => match P.underlying t with
    | some (.func _ _ _) => some true
    | _ => none
  | .nilFunc, .func _ _ _ | .func _ _ _, .nilFunc => match P.underlying t with
    | some (.func _ _ _) => some false
    | _ => none
  | .nilIface, .nilIface => match P.underlying t with
    | some (.interface _) => some true
    | _ => none
  | .nilIface, .iface _ _ | .iface _ _, .nilIface => match P.underlying t with
    | some (.interface _) => some false
    | _ => none
  | .iface tx _, .iface ty _ => match P.underlying t with
    | some (.interface _) => bif Nat.beq tx ty then none else some false
    | _ => none
  | .bool a, .bool b => eqIn P 10000 t (.bool a) (.bool b)
  | .agg a, .agg b => bif P.eqGuardType P.depth t then none else eqIn P 10000 t (.agg a) (.agg b)
  | _, _ => none

set_option maxHeartbeats 1000000 in
theorem eqTop_sound {P : Program} {φ : Ren} {w : World} {t : TypeId} {x y x' y' : Value} (hx : VRel φ x x') (hy : VRel φ y y') {b : Bool} (h : eqTop P t x y = some b) :
    (Op.equal t x' y').run P w = .ok b w := by
  unfold eqTop at h
  split at h
  case h_1 b0 =>
    split at h
    · rename_i e hu
      cases h
      cases hx
      cases hy <;> (show (Op.equalIn (9999 + 1) t _ _).run P w = _; generalize 9999 = d; simp [Op.equalIn, run_underlying hu])
    · cases h
  case h_2 =>
    split at h
    · rename_i e hu
      cases h
      cases hx
      cases hy
      (show (Op.equalIn (9999 + 1) t _ _).run P w = _; generalize 9999 = d; simp [Op.equalIn, run_underlying hu])
    · cases h
  case h_3 b1 o1 b2 o2 =>
    split at h
    · rename_i e hu
      split at h
      · rename_i n hs
        cases hb : Nat.beq b1 b2 with
        | false => simp [hb] at h
        | true =>
          simp only [hb, cond_true, Option.some.injEq] at h
          subst h
          have hbb := Nat.eq_of_beq_eq_true hb
          subst hbb
          cases hx with
          | @ptr _ oo1 l1 hl1 =>
            cases hy with
            | @ptr _ oo2 l2 hl2 =>
              rw [hl1] at hl2
              obtain rfl := Option.some.inj hl2
              (show (Op.equalIn (9999 + 1) t _ _).run P w = _; generalize 9999 = d; simp [Op.equalIn, run_underlying hu, run_sizeOf hs, sameAddr])
              rw [Bool.eq_iff_iff]
              simp
      · cases h
    · cases h
  case h_4 =>
    split at h
    · rename_i e hu
      cases h
      cases hx
      cases hy <;> (show (Op.equalIn (9999 + 1) t _ _).run P w = _; generalize 9999 = d; simp [Op.equalIn, run_underlying hu])
    · cases h
  case h_5 =>
    split at h
    · rename_i e hu
      cases h
      cases hy
      cases hx <;> (show (Op.equalIn (9999 + 1) t _ _).run P w = _; generalize 9999 = d; simp [Op.equalIn, run_underlying hu])
    · cases h
  case h_6 =>
    split at h
    · rename_i e hu
      cases h
      cases hx
      cases hy <;> (show (Op.equalIn (9999 + 1) t _ _).run P w = _; generalize 9999 = d; simp [Op.equalIn, run_underlying hu])
    · cases h
  case h_7 =>
    split at h
    · rename_i e hu
      cases h
      cases hy
      cases hx; (show (Op.equalIn (9999 + 1) t _ _).run P w = _; generalize 9999 = d; simp [Op.equalIn, run_underlying hu])
    · cases h
  case h_8 =>
    split at h
    · rename_i hu; cases h; cases hx; cases hy; (show (Op.equalIn (9999 + 1) t _ _).run P w = _; generalize 9999 = d; simp [Op.equalIn, run_underlying hu])
    · cases h
  case h_9 =>
    split at h
    · rename_i hu; cases h; cases hx; cases hy; (show (Op.equalIn (9999 + 1) t _ _).run P w = _; generalize 9999 = d; simp [Op.equalIn, run_underlying hu])
    · cases h
  case h_10 =>
    split at h
    · rename_i hu; cases h; cases hx; cases hy; (show (Op.equalIn (9999 + 1) t _ _).run P w = _; generalize 9999 = d; simp [Op.equalIn, run_underlying hu])
    · cases h
  case h_11 =>
    split at h
    · rename_i hu; cases h; cases hx; cases hy; (show (Op.equalIn (9999 + 1) t _ _).run P w = _; generalize 9999 = d; simp [Op.equalIn, run_underlying hu])
    · cases h
  case h_12 =>
    split at h
    · rename_i hu; cases h; cases hx; cases hy; (show (Op.equalIn (9999 + 1) t _ _).run P w = _; generalize 9999 = d; simp [Op.equalIn, run_underlying hu])
    · cases h
  case h_13 =>
    split at h
    · rename_i hu; cases h; cases hx; cases hy; (show (Op.equalIn (9999 + 1) t _ _).run P w = _; generalize 9999 = d; simp [Op.equalIn, run_underlying hu])
    · cases h
  case h_14 tx vx ty vy =>
    split at h
    · rename_i hu
      cases hb : Nat.beq tx ty with
      | true => simp [hb] at h
      | false =>
        simp only [hb, cond_false, Option.some.injEq] at h
        subst h
        have := Nat.ne_of_beq_eq_false hb
        cases hx; cases hy
        (show (Op.equalIn (9999 + 1) t _ _).run P w = _; generalize 9999 = d; simp [Op.equalIn, run_underlying hu, this])
    · cases h
  case h_15 => exact eqIn_sound 10000 t _ _ _ _ b h hx hy
  case h_16 =>
    cases hg : P.eqGuardType P.depth t with
    | true => simp [hg] at h
    | false => simp [hg] at h; exact eqIn_sound 10000 t _ _ _ _ b h hx hy
  case h_17 => cases h

def constO : Operand → Bool
  | .const _ => true
  | _ => false

def eqOp (op : BinOp) (r : Option Bool) : Option Value :=
  match op with
  | .eql => r.map .bool
  | .neq => r.map fun b => .bool !b
  | _ => none

def guardOk (P : Program) (t : TypeId) (x : Value) : Bool :=
  match x with
  | .agg _ => !P.eqGuardType P.depth t
  | _ => true

def binA (P : Program) (op : BinOp) (t : TypeId) (xc yc : Bool) (x y : Value) : Option Value :=
  match x, y with
  | .int k a, .int k' b => binInt op k a k' b
  | .string a, .string b => binStr op a b
  | .nilIface, .nilIface => bif xc || yc then eqOp op (eqTop P t .nilIface .nilIface) else none
  | x, y => bif guardOk P t x then eqOp op (eqTop P t x y) else none

theorem eqOp_sound {P : Program} {w : World} {op : BinOp} {t : TypeId} {xo yo : Operand} {x' y' : Value} {r : Option Bool} {v : Value} (hr : ∀ b, r = some b → (Op.equal t x' y').run P w = .ok b w)
    (hg : (eqGuard op t xo yo x' y').run P w = .ok () w) (h1 : binOp .eql t x' y' = (do pure (.bool (← Op.equal t x' y')))) (h2 : binOp .neq t x' y' = (do pure (.bool (!(← Op.equal t x' y')))))
    (h : eqOp op r = some v) : (do eqGuard op t xo yo x' y'; binOp op t x' y' : Sem Value).run P w = .ok v w ∧ cst 0 v = true := by
  cases op <;> simp only [eqOp, reduceCtorEq] at h
  all_goals
    cases r with
    | none => cases h
    | some b =>
      simp only [Option.map_some, Option.some.injEq] at h
      subst h
      refine ⟨?_, rfl⟩
      simp only [Sem.run_bind, hg, Result.andThen_ok, h1, h2, hr b rfl, Sem.run_pure]

theorem binOp_eql_of {t : TypeId} {x y : Value} (h1 : ∀ k a k' b, x = .int k a → y = .int k' b → False) (h2 : ∀ a b, x = .string a → y = .string b → False)
    (h3 : ∀ k a, x ≠ .float k a) (h4 : ∀ k a b, x ≠ .complex k a b) : binOp .eql t x y = (do pure (.bool (← Op.equal t x y))) ∧ binOp .neq t x y = (do pure (.bool (!(← Op.equal t x y)))) := by
  constructor
  all_goals
    unfold binOp
    split <;> first
      | rfl
      | (exact absurd rfl (h3 _ _))
      | (exact absurd rfl (h4 _ _ _))
      | (exact (h1 _ _ _ _ rfl rfl).elim)
      | (exact (h2 _ _ rfl rfl).elim)
      | (rename_i e _ _; cases e; done)
      | (rename_i e _; cases e; done)
      | (rename_i e; cases e; done)
      | simp_all

theorem eqGuard_of {P : Program} {w : World} {op : BinOp} {t : TypeId} {xo yo : Operand} {x y : Value} (h1 : x = .nilIface → y = .nilIface → (constO xo || constO yo) = true) (h2 : ∀ a, x = .agg a → P.eqGuardType P.depth t = false) :
    (eqGuard op t xo yo x y).run P w = .ok () w := by
  have main : ∀ op : BinOp, op = .eql ∨ op = .neq → (eqGuard op t xo yo x y).run P w = .ok () w := by
    intro op ho
    rcases ho with rfl | rfl
    all_goals
      simp only [eqGuard, Bool.not_true, Bool.false_eq_true, if_false]
      split
      · have := h1 rfl rfl
        cases xo <;> cases yo <;> simp [constO] at this <;> simp
      · have := h2 _ rfl
        simp [this]
      · simp
  cases op <;> first | exact main _ (.inl rfl) | exact main _ (.inr rfl) | rfl

theorem binA_sound {P : Program} {φ : Ren} {w : World} {op : BinOp} {t : TypeId} {xo yo : Operand} {x y x' y' : Value} (hx : VRel φ x x') (hy : VRel φ y y') {v : Value} (h : binA P op t (constO xo) (constO yo) x y = some v) :
    (do eqGuard op t xo yo x' y'; binOp op t x' y' : Sem Value).run P w = .ok v w ∧ cst 0 v = true := by
  unfold binA at h
  split at h
  · rename_i k a k' b
    cases hx; cases hy
    obtain ⟨h1, h2⟩ := binInt_sound (P := P) h t w
    have := eqGuard_of (P := P) (w := w) (op := op) (t := t) (xo := xo) (yo := yo) (x := .int k a) (y := .int k' b) (by simp) (by simp)
    exact ⟨by simp only [Sem.run_bind, this, Result.andThen_ok, h1], h2⟩
  · rename_i a b
    cases hx; cases hy
    obtain ⟨h1, h2⟩ := binStr_sound (P := P) h t w
    have := eqGuard_of (P := P) (w := w) (op := op) (t := t) (xo := xo) (yo := yo) (x := .string a) (y := .string b) (by simp) (by simp)
    exact ⟨by simp only [Sem.run_bind, this, Result.andThen_ok, h1], h2⟩
  · cases hc : (constO xo || constO yo) with
    | false => simp [hc] at h
    | true =>
      simp only [hc, cond_true] at h
      have hx0 := hx
      have hy0 := hy
      cases hx; cases hy
      exact eqOp_sound (fun b hb => eqTop_sound hx0 hy0 hb) (eqGuard_of (fun _ _ => hc) (by simp)) (by simp [binOp]) (by simp [binOp]) h
  · rename_i n1 n2 n3
    cases hgo : guardOk P t x with
    | false => simp [hgo] at h
    | true =>
      simp only [hgo, cond_true] at h
      have hne : ∀ k a, x ≠ .float k a := by
        intro k a e
        subst e
        cases op <;> simp [eqOp, eqTop] at h
      have sh : (∀ k a k' b, x' = .int k a → y' = .int k' b → False) ∧ (∀ a b, x' = .string a → y' = .string b → False) ∧ (∀ k a, x' ≠ .float k a) ∧ (∀ k a b, x' ≠ .complex k a b) := by
        refine ⟨?_, ?_, ?_, ?_⟩
        · rintro k a k' b rfl rfl
          cases hx; cases hy
          exact n1 _ _ _ _ rfl rfl
        · rintro a b rfl rfl
          cases hx; cases hy
          exact n2 _ _ rfl rfl
        · rintro k a rfl
          cases hx
          exact hne _ _ rfl
        · rintro k a b rfl
          cases hx
      have bo := binOp_eql_of (t := t) sh.1 sh.2.1 sh.2.2.1 sh.2.2.2
      refine eqOp_sound (fun b hb => eqTop_sound hx hy hb) (eqGuard_of (fun e1 e2 => ?_) (fun a e => ?_)) bo.1 bo.2 h
      · subst e1; subst e2
        cases hx; cases hy
        exact (n3 rfl rfl).elim
      · subst e
        cases hx
        simpa [guardOk] using hgo

end Go.Proofs.YtkjkoejnicbieaaGreat.AM

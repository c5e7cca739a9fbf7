/-
  THE ABSTRACT MACHINE, part 4: structs that are built, addresses, slices, what maps hold.
-/
import Derived.Test.YtkjkoejnicbieaaGreatAm3
namespace Go.Proofs.YtkjkoejnicbieaaGreat.AM
open Go Go.RowKit

/-! ### Lists of values, place by place -/
abbrev LRel (φ : Ren) : List Value → List Value → Prop := All2 (VRel φ)

theorem All2.length {α β : Type} {R : α → β → Prop} {as : List α} {bs : List β} (h : All2 R as bs) : as.length = bs.length := by
  induction h with
  | nil => rfl
  | cons _ _ ih => simp [ih]

theorem All2.get? {α β : Type} {R : α → β → Prop} {as : List α} {bs : List β} (h : All2 R as bs) : ∀ (i : Nat) (a : α) (b : β), as[i]? = some a → bs[i]? = some b → R a b := by
  induction h with
  | nil => intro i a b h; simp at h
  | cons h _ ih =>
    intro i a b ha hb
    cases i with
    | zero => simp at ha hb; subst ha; subst hb; exact h
    | succ i => simp at ha hb; exact ih i a b ha hb

theorem All2.of_get? {α β : Type} {R : α → β → Prop} : ∀ {as : List α} {bs : List β}, as.length = bs.length → (∀ (i : Nat) (a : α) (b : β), as[i]? = some a → bs[i]? = some b → R a b) → All2 R as bs
  | [], [], _, _ => .nil
  | [], _ :: _, h, _ => by simp at h
  | _ :: _, [], h, _ => by simp at h
  | a :: as, b :: bs, h, k => .cons (k 0 a b (by simp) (by simp)) (All2.of_get? (by simpa using h) fun i x y hx hy => k (i + 1) x y (by simpa using hx) (by simpa using hy))

theorem All2.append {α β : Type} {R : α → β → Prop} {as cs : List α} {bs ds : List β} (h : All2 R as bs) (k : All2 R cs ds) : All2 R (as ++ cs) (bs ++ ds) := by
  induction h with
  | nil => exact k
  | cons h _ ih => exact .cons h ih

theorem All2.set {α β : Type} {R : α → β → Prop} {as : List α} {bs : List β} (h : All2 R as bs) (n : Nat) {a : α} {b : β} (hab : R a b) : All2 R (as.set n a) (bs.set n b) := by
  induction h generalizing n with
  | nil => exact .nil
  | cons h t ih =>
    cases n with
    | zero => exact .cons hab t
    | succ n => exact .cons h (ih n)

theorem LRel.arel {φ : Ren} {as bs : List Value} (h : LRel φ as bs) : ARel φ as.toArray bs.toArray :=
  ⟨by simpa using h.length, fun i a b => h.get? i _ _ (by simp at a; simp [a]) (by simp at b; simp [b])⟩

theorem ARel.lrel {φ : Ren} {as bs : Array Value} (h : ARel φ as bs) : LRel φ as.toList bs.toList :=
  All2.of_get? (by simpa using h.1) fun i a b ha hb => by
    simp only [Array.getElem?_toList] at ha hb
    obtain ⟨v, hv, hr⟩ := h.get? ha
    rw [hv] at hb
    obtain rfl := Option.some.inj hb
    exact hr

/-- Operands in a row. -/
def evL (ev : Operand → Option Value) : List Operand → Option (List Value)
  | [] => some []
  | x :: xs => match ev x with
    | some v => match evL ev xs with
      | some vs => some (v :: vs)
      | none => none
    | none => none

theorem evL_rel {φ : Ren} {ev : Operand → Option Value} {ρ : Operand → Value} (hev : ∀ x u, ev x = some u → VRel φ u (ρ x)) : ∀ (xs : List Operand) (vs : List Value), evL ev xs = some vs → LRel φ vs (xs.map ρ) := by
  intro xs
  induction xs with
  | nil => intro vs h; simp [evL] at h; subst h; exact .nil
  | cons x xs ih =>
    intro vs h
    simp only [evL] at h
    cases hx : ev x with
    | none => simp [hx] at h
    | some v =>
      cases hs : evL ev xs with
      | none => simp [hx, hs] at h
      | some ws => simp [hx, hs] at h; subst h; exact .cons (hev x v hx) (ih ws hs)

/-- Numbered operands in a row (the parts of a struct). -/
def evP (ev : Operand → Option Value) : List (Nat × Operand) → Option (List (Nat × Value))
  | [] => some []
  | (i, x) :: xs => match ev x with
    | some v => match evP ev xs with
      | some vs => some ((i, v) :: vs)
      | none => none
    | none => none

theorem evP_rel {φ : Ren} {ev : Operand → Option Value} {ρ : Operand → Value} (hev : ∀ x u, ev x = some u → VRel φ u (ρ x)) : ∀ (xs : List (Nat × Operand)) (vs : List (Nat × Value)), evP ev xs = some vs →
    All2 (fun (a b : Nat × Value) => a.1 = b.1 ∧ VRel φ a.2 b.2) vs (xs.map fun p => (p.1, ρ p.2)) := by
  intro xs
  induction xs with
  | nil => intro vs h; simp [evP] at h; subst h; exact .nil
  | cons x xs ih =>
    intro vs h
    obtain ⟨i, x⟩ := x
    simp only [evP] at h
    cases hx : ev x with
    | none => simp [hx] at h
    | some v =>
      cases hs : evP ev xs with
      | none => simp [hx, hs] at h
      | some ws => simp [hx, hs] at h; subst h; exact .cons ⟨rfl, hev x v hx⟩ (ih ws hs)

/-! ### Structs that are built -/
def putL (cs : List Value) (off : Nat) : List Value → List Value
  | [] => cs
  | v :: vs => putL (cs.set off v) (off + 1) vs

theorem putL_length (vs : List Value) : ∀ (cs : List Value) (off : Nat), (putL cs off vs).length = cs.length := by
  induction vs with
  | nil => intro cs off; rfl
  | cons v vs ih => intro cs off; simp [putL, ih]

theorem putL_rel {φ : Ren} {vs ws : List Value} (h : LRel φ vs ws) : ∀ {cs ds : List Value} (off : Nat), LRel φ cs ds → LRel φ (putL cs off vs) (putL ds off ws) := by
  induction h with
  | nil => intro cs ds off hc; exact hc
  | cons h _ ih => intro cs ds off hc; exact ih (off + 1) (hc.set off h)

theorem foldl_put (off : Nat) : ∀ (vs : List Value) (cs : Array Value) (k : Nat), ((vs.zipIdx k).foldl (fun cs x => cs.setIfInBounds (off + x.2) x.1) cs).toList = putL cs.toList (off + k) vs := by
  intro vs
  induction vs with
  | nil => intro cs k; rfl
  | cons v vs ih =>
    intro cs k
    simp only [List.zipIdx_cons, List.foldl_cons, putL]
    rw [ih]
    simp [Nat.add_assoc]

theorem foldl_put_arr (off : Nat) (vs cs : Array Value) : vs.zipIdx.foldl (fun cs x => cs.setIfInBounds (off + x.2) x.1) cs = (putL cs.toList off vs.toList).toArray := by
  apply Array.ext'
  rw [← Array.foldl_toList, Array.toList_zipIdx]
  simpa using foldl_put off vs.toList cs 0

def fillA (place : Nat → Option (Nat × Nat)) (cells : List Value) : List (Nat × Value) → Option (List Value)
  | [] => some cells
  | (i, v) :: rest =>
    match place i with
    | none => none
    | some (off, size) =>
      bif Nat.beq v.cells.size size && Nat.ble (off + v.cells.size) cells.length then fillA place (putL cells off v.cells.toList) rest else none

theorem fillA_sound {φ : Ren} {place : Nat → Option (Nat × Nat)} : ∀ (parts parts' : List (Nat × Value)), All2 (fun (a b : Nat × Value) => a.1 = b.1 ∧ VRel φ a.2 b.2) parts parts' →
    ∀ (cells cells' r : List Value), LRel φ cells cells' → fillA place cells parts = some r → ∃ r', Instr.fill place cells'.toArray parts' = some r' ∧ ARel φ r.toArray r' := by
  intro parts parts' h
  induction h with
  | nil => intro cells cells' r hc h; simp [fillA] at h; subst h; exact ⟨_, rfl, hc.arel⟩
  | @cons a b as bs hab t ih =>
    intro cells cells' r hc h
    obtain ⟨i, v⟩ := a
    obtain ⟨j, v'⟩ := b
    obtain ⟨hij, hv⟩ := hab
    simp only at hij hv
    subst hij
    simp only [fillA] at h
    cases hp : place i with
    | none => simp [hp] at h
    | some p =>
      obtain ⟨off, size⟩ := p
      simp only [hp] at h
      cases hb : (Nat.beq v.cells.size size && Nat.ble (off + v.cells.size) cells.length) with
      | false => simp [hb] at h
      | true =>
        simp only [hb, cond_true] at h
        simp at hb
        have hvc := hv.cells
        have hlen := hc.length
        have e1 : ¬ (v'.cells.size ≠ size || decide (off + v'.cells.size > cells'.toArray.size)) = true := by
          have := hvc.1
          simp; omega
        simp only [Instr.fill, hp]
        rw [if_neg e1]
        have := foldl_put_arr off v'.cells cells'.toArray
        rw [this]
        exact ih _ _ r (putL_rel hvc.lrel off hc) h

def placeS (P : Program) (fields : Array Field) (i : Nat) : Option (Nat × Nat) :=
  match fields[i]? with
  | some f => match szOf P f.type with
    | some n => some (f.offset, n)
    | none => none
  | none => none

def sizesKnown (P : Program) : List Field → Bool
  | [] => true
  | f :: fs => match szOf P f.type with
    | some _ => sizesKnown P fs
    | none => false

theorem run_places {P : Program} (w : World) : ∀ (fs : List Field), sizesKnown P fs = true → ∃ ps : List (Nat × Nat), ((fs.mapM fun f => do pure (f.offset, ← sizeOf f.type) : Sem _)).run P w = .ok ps w ∧
    ps.length = fs.length ∧ ∀ (i : Nat) (f : Field), fs[i]? = some f → ∃ n, szOf P f.type = some n ∧ ps[i]? = some (f.offset, n) := by
  intro fs
  induction fs with
  | nil => intro _; exact ⟨[], by simp, rfl, by simp⟩
  | cons f fs ih =>
    intro h
    simp only [sizesKnown] at h
    cases hs : szOf P f.type with
    | none => simp [hs] at h
    | some n =>
      simp [hs] at h
      obtain ⟨ps, h1, h2, h3⟩ := ih h
      refine ⟨(f.offset, n) :: ps, by simp only [List.mapM_cons, Sem.run_bind, run_sizeOf hs, Result.andThen_ok, Sem.run_pure, h1], by simp [h2], fun i g hg => ?_⟩
      cases i with
      | zero => simp at hg; subst hg; exact ⟨n, hs, by simp⟩
      | succ i => simp at hg; obtain ⟨m, a, b⟩ := h3 i g hg; exact ⟨m, a, by simpa using b⟩

theorem run_places_arr {P : Program} (w : World) (fields : Array Field) (h : sizesKnown P fields.toList = true) :
    ∃ ps : Array (Nat × Nat), ((fields.mapM fun f => do pure (f.offset, ← sizeOf f.type) : Sem _)).run P w = .ok ps w ∧ ∀ i, ps[i]? = placeS P fields i := by
  obtain ⟨ps, h1, h2, h3⟩ := run_places w fields.toList h
  refine ⟨ps.toArray, ?_, fun i => ?_⟩
  · have := congrArg (fun x => (Sem.run P x w)) (List.mapM_toArray (m := Sem) (f := fun f : Field => do pure (f.offset, ← sizeOf f.type)) (l := fields.toList))
    simp only [Array.toArray_toList] at this
    rw [this, Sem.run_map]
    simp only [h1, Result.andThen_ok]
  · unfold placeS
    cases hf : fields[i]? with
    | none =>
      have : ps.length ≤ i := by rw [h2]; simpa using Array.getElem?_eq_none_iff.1 hf
      simp [List.getElem?_eq_none this]
    | some f =>
      obtain ⟨n, a, b⟩ := h3 i f (by simpa using hf)
      simp [a, b]

def buildA (P : Program) (t : TypeId) (parts : List (Nat × Value)) : Option Value :=
  match zeroOf P t with
  | none => none
  | some z => bif cst 8 z then
      match P.underlying t with
      | some (.struct fields) => bif sizesKnown P fields.toList then
          match fillA (placeS P fields) z.cells.toList parts with
          | some cs => some (.agg cs.toArray)
          | none => none
        else none
      | some (.array _ elem) => match szOf P elem with
        | some n => match fillA (fun i => some (i * n, n)) z.cells.toList parts with
          | some cs => some (.agg cs.toArray)
          | none => none
        | none => none
      | _ => none
    else none

theorem buildA_sound {P : Program} {φ : Ren} {t : TypeId} {parts parts' : List (Nat × Value)} (hp : All2 (fun (a b : Nat × Value) => a.1 = b.1 ∧ VRel φ a.2 b.2) parts parts') {v : Value} (h : buildA P t parts = some v) (w : World) :
    ∃ v', (Instr.build t parts'.toArray).run P w = .ok v' w ∧ VRel φ v v' := by
  unfold buildA at h
  cases hz : zeroOf P t with
  | none => simp [hz] at h
  | some z =>
    simp only [hz] at h
    cases hc : cst 8 z with
    | false => simp [hc] at h
    | true =>
      simp only [hc, cond_true] at h
      have hzr := (cst_rel φ 8 z hc).cells.lrel
      split at h
      · rename_i fields hu
        cases hk : sizesKnown P fields.toList with
        | false => simp [hk] at h
        | true =>
          simp only [hk, cond_true] at h
          obtain ⟨ps, h1, h2⟩ := run_places_arr (P := P) w fields hk
          cases hf : fillA (placeS P fields) z.cells.toList parts with
          | none => simp [hf] at h
          | some cs =>
            simp [hf] at h
            subst h
            obtain ⟨r', g1, g2⟩ := fillA_sound _ _ hp _ _ _ hzr hf
            have e : (fun x => ps[x]?) = placeS P fields := funext h2
            refine ⟨.agg r', ?_, .agg g2.1 g2.2⟩
            simp only [Instr.build, Sem.run_bind, run_zeroValue hz, Result.andThen_ok, run_underlying hu, h1, e]
            simp only [Array.toArray_toList] at g1
            simp [g1]
      · rename_i len elem hu
        cases hs : szOf P elem with
        | none => simp [hs] at h
        | some n =>
          simp only [hs] at h
          cases hf : fillA (fun i => some (i * n, n)) z.cells.toList parts with
          | none => simp [hf] at h
          | some cs =>
            simp [hf] at h
            subst h
            obtain ⟨r', g1, g2⟩ := fillA_sound _ _ hp _ _ _ hzr hf
            refine ⟨.agg r', ?_, .agg g2.1 g2.2⟩
            simp only [Instr.build, Sem.run_bind, run_zeroValue hz, Result.andThen_ok, run_underlying hu, run_sizeOf hs]
            simp only [Array.toArray_toList] at g1
            simp [g1]
      · cases h

end Go.Proofs.YtkjkoejnicbieaaGreat.AM

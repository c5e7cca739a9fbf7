/-
  THE ABSTRACT MACHINE, part 1: how the relation of abstract memory to the model's outlives changes of memory.
-/
import Derived.Test.YtkjkoejnicbieaaGreatAm0
import Derived.WalkKit
namespace Go.Proofs.YtkjkoejnicbieaaGreat.AM
open Go Go.RowKit

/-! ### What a step may do to maps: entries keep stamp and key, the clock goes on -/
def MapsStep (w w' : World) : Prop := ∀ (k : Nat) (es : Array MapEntry) (ck : Nat), w.heap[k]? = some (.map es ck) → ∃ (es2 : Array MapEntry) (ck2 : Nat), w'.heap[k]? = some (.map es2 ck2) ∧ ck ≤ ck2 ∧
  (ck2 = ck → ∀ e2 ∈ es2.toList, ∃ e ∈ es.toList, e.born = e2.born ∧ e.key = e2.key)

theorem MapsStep.of_same {w w' : World} (h : ∀ (k : Nat) (es : Array MapEntry) (ck : Nat), w.heap[k]? = some (.map es ck) → w'.heap[k]? = some (.map es ck)) : MapsStep w w' :=
  fun k es ck hk => ⟨es, ck, h k es ck hk, Nat.le_refl _, fun _ e he => ⟨e, he, rfl, rfl⟩⟩

theorem ORel.keep {φ ψ : Ren} {o : AObj} {l : Loc} {w w' : World} (hle : Ren.le φ ψ) (hb : w'.heap[l.blk]? = w.heap[l.blk]?) (hm : MapsStep w w') (h : ORel φ o l w) : ORel ψ o l w' := by
  cases o with
  | cells c elem sz fz ro hd =>
    obtain ⟨c', fr, h1, h0, hz, h2, h3, h4, h5⟩ := h
    refine ⟨c', fr, hb.trans h1, h0, hz, h2, h3, fun i v hv => ?_, h5⟩
    obtain ⟨v', g1, g2⟩ := h4 i v hv
    exact ⟨v', g1, g2.mono hle⟩
  | map es clock =>
    obtain ⟨es', h1, p, h2, h3, h4⟩ := h
    exact ⟨es', hb.trans h1, p, h2, h3.mono (fun a b hab => ⟨hab.1, hab.2.mono hle⟩), h4⟩
  | iter m clock seen =>
    obtain ⟨h0, m', seen', h1, h2⟩ := h
    refine ⟨h0, m', seen', hb.trans h1, ?_⟩
    cases m with
    | none => exact h2
    | some r =>
      obtain ⟨lm, g1, g2, es, ck, g3, g4, g5, g6⟩ := h2
      obtain ⟨es2, ck2, k1, k2, k3⟩ := hm _ _ _ g3
      refine ⟨lm, hle _ _ g1, g2, es2, ck2, k1, by omega, fun he e he2 => ?_, fun k rest hk => ?_⟩
      · obtain ⟨e1, m1, m2, m3⟩ := k3 (by omega) e he2
        rw [← m2, ← m3]
        exact g5 (by omega) e1 m1
      · obtain ⟨b, b1, b2⟩ := g6 k rest hk
        refine ⟨b, b1, fun he e he2 hke => ?_⟩
        obtain ⟨e1, m1, m2, m3⟩ := k3 (by omega) e he2
        rw [← m2]
        exact b2 (by omega) e1 m1 (by rw [m3]; exact hke)
  | siter s pos => exact ⟨h.1, hb.trans h.2⟩

theorem ORel.blk_lt {φ : Ren} {o : AObj} {l : Loc} {w : World} (h : ORel φ o l w) : l.blk < w.heap.size := by
  have key : ∀ x : Obj, w.heap[l.blk]? = some x → l.blk < w.heap.size := fun x hx => by
    rcases Nat.lt_or_ge l.blk w.heap.size with h' | h'
    · exact h'
    · simp [Array.getElem?_eq_none h'] at hx
  cases o with
  | cells c elem sz fz ro hd => obtain ⟨c', fr, h1, _⟩ := h; exact key _ h1
  | map es clock => obtain ⟨es', h1, _⟩ := h; exact key _ h1
  | iter m clock seen => obtain ⟨_, m', s', h1, _⟩ := h; exact key _ h1
  | siter s pos => exact key _ h.2

/-- The blocks of memory that what is known may write. -/
def Touch (φ : Ren) (hp : Tr AObj) (k : Nat) : Prop := ∃ i o l, hp.get i = some o ∧ o.ro = false ∧ φ i = some l ∧ l.blk = k

/-- What a run does beside what it is asked for: nothing that was there and is not known is written, and what is known then was known or is new. -/
structure Ext (φ : Ren) (hp : Tr AObj) (w : World) (φ' : Ren) (hp' : Tr AObj) (w' : World) : Prop where
  le : Ren.le φ φ'
  os : w'.os = w.os
  tape : w'.tape = w.tape
  output : w'.output = w.output
  size : w.heap.size ≤ w'.heap.size
  frame : ∀ k, k < w.heap.size → ¬ Touch φ hp k → w'.heap[k]? = w.heap[k]?
  born : ∀ i o l, hp'.get i = some o → φ' i = some l → w.heap.size ≤ l.blk ∨ ∃ i0 o0 l0, hp.get i0 = some o0 ∧ φ i0 = some l0 ∧ l0.blk = l.blk ∧ (o0.ro = true → o.ro = true)

theorem Ext.touch {φ : Ren} {hp : Tr AObj} {w : World} {φ' : Ren} {hp' : Tr AObj} {w' : World} (h : Ext φ hp w φ' hp' w') (k : Nat) (hk : k < w.heap.size) (ht : Touch φ' hp' k) : Touch φ hp k := by
  obtain ⟨i, o, l, h1, h2, h3, h4⟩ := ht
  rcases h.born i o l h1 h3 with hb | ⟨i0, o0, l0, g1, g2, g3, g4⟩
  · omega
  · refine ⟨i0, o0, l0, g1, ?_, g2, by omega⟩
    cases hr : o0.ro with
    | false => rfl
    | true => rw [g4 hr] at h2; cases h2
theorem born_same {φ : Ren} {hp : Tr AObj} {i : Nat} {o : AObj} {l : Loc} {n : Nat} (h1 : hp.get i = some o) (h2 : φ i = some l) : n ≤ l.blk ∨ ∃ i0 o0 l0, hp.get i0 = some o0 ∧ φ i0 = some l0 ∧ l0.blk = l.blk ∧ (o0.ro = true → o.ro = true) :=
  .inr ⟨i, o, l, h1, h2, rfl, id⟩

theorem Ext.refl (φ : Ren) (hp : Tr AObj) (w : World) : Ext φ hp w φ hp w :=
  ⟨Ren.le_refl φ, rfl, rfl, rfl, Nat.le_refl _, fun _ _ _ => rfl, fun _ _ _ h1 h2 => born_same h1 h2⟩

theorem Ext.trans {φ ψ χ : Ren} {h1 h2 h3 : Tr AObj} {w1 w2 w3 : World} (a : Ext φ h1 w1 ψ h2 w2) (b : Ext ψ h2 w2 χ h3 w3) : Ext φ h1 w1 χ h3 w3 :=
  ⟨Ren.le_trans a.le b.le, b.os.trans a.os, b.tape.trans a.tape, b.output.trans a.output, Nat.le_trans a.size b.size,
    fun k hk ht => (b.frame k (Nat.lt_of_lt_of_le hk a.size) (fun h => ht (a.touch k hk h))).trans (a.frame k hk ht),
    fun i o l h h2 => by
      rcases b.born i o l h h2 with hb | ⟨i0, o0, l0, g1, g2, g3, g4⟩
      · exact .inl (Nat.le_trans a.size hb)
      · rcases a.born i0 o0 l0 g1 g2 with hb | ⟨i1, o1, l1, k1, k2, k3, k4⟩
        · exact .inl (by omega)
        · exact .inr ⟨i1, o1, l1, k1, k2, k3.trans g3, fun h => g4 (k4 h)⟩⟩

theorem Ext.below {φ φ' : Ren} {hp hp' : Tr AObj} {w w' : World} (h : Ext φ hp w φ' hp' w') {B : Nat} (hB : B ≤ w.heap.size) (ht : ∀ k, k < B → ¬ Touch φ hp k) : Below B w w' :=
  ⟨h.os, h.tape, h.output, h.size, fun k hk => h.frame k (Nat.lt_of_lt_of_le hk hB) (ht k hk)⟩

theorem Ext.drew (φ : Ren) (hp : Tr AObj) (w : World) : Ext φ hp w φ hp w.drew :=
  ⟨Ren.le_refl φ, rfl, rfl, rfl, Nat.le_refl _, fun _ _ _ => rfl, fun _ _ _ h1 h2 => born_same h1 h2⟩

theorem WRel.drew {φ : Ren} {hp : Tr AObj} {w : World} (h : WRel φ hp w) : WRel φ hp w.drew :=
  ⟨fun i o l hi hl => (h.obj i o l hi hl).keep (Ren.le_refl φ) rfl (MapsStep.of_same fun _ _ _ hk => hk), h.apart⟩

/-- Less is known. -/
theorem WRel.sub {φ : Ren} {hp hp' : Tr AObj} {w : World} (h : WRel φ hp w) (hs : ∀ i o, hp'.get i = some o → hp.get i = some o) : WRel φ hp' w :=
  ⟨fun i o l hi hl => h.obj i o l (hs i o hi) hl, fun i j oi oj li lj hne hi hj => h.apart i j oi oj li lj hne (hs i oi hi) (hs j oj hj)⟩

theorem heap_alloc_lt (w : World) (o : Obj) {k : Nat} (h : k < w.heap.size) : (w.alloc o).heap[k]? = w.heap[k]? := Below.heap_alloc w o k h
theorem heap_alloc_at (w : World) (o : Obj) : (w.alloc o).heap[w.heap.size]? = some o := by
  show (w.heap.push o)[w.heap.size]? = _
  simp

theorem mapsStep_alloc (w : World) (o : Obj) : MapsStep w (w.alloc o) := MapsStep.of_same fun k es ck hk => by
  have hlt : k < w.heap.size := by
    rcases Nat.lt_or_ge k w.heap.size with h | h
    · exact h
    · simp [Array.getElem?_eq_none h] at hk
  rw [heap_alloc_lt w o hlt]; exact hk

/-- A new block. (In the view 'hp' the number n stands for the new object already, or for nothing; its place was not given.) -/
theorem WRel.alloc_view {φ : Ren} {hp : Tr AObj} {w : World} (h : WRel φ hp w) {n : Nat} (hn : φ n = none) {l : Loc} (hl : l.blk = w.heap.size) {o : AObj} (hg : hp.get n = some o) (ob : Obj)
    (ho : ORel (φ.put n l) o l (w.alloc ob)) : WRel (φ.put n l) hp (w.alloc ob) := by
  have hlt : ∀ i oi li, hp.get i = some oi → φ i = some li → li.blk < w.heap.size := fun i oi li hi hli => (h.obj i oi li hi hli).blk_lt
  refine ⟨fun i oi li hi hli => ?_, fun i j oi oj li lj hne hi hj hli hlj hb => ?_⟩
  · by_cases e : i = n
    · subst e
      rw [Ren.put_same] at hli
      obtain rfl := Option.some.inj hli
      rw [hg] at hi
      obtain rfl := Option.some.inj hi
      exact ho
    · rw [Ren.put_ne _ _ e] at hli
      have hk := hlt i oi li hi hli
      exact (h.obj i oi li hi hli).keep (Ren.le_put hn) (heap_alloc_lt w ob hk) (mapsStep_alloc w ob)
  · by_cases ei : i = n
    · by_cases ej : j = n
      · exact absurd (ei.trans ej.symm) hne
      · subst ei
        rw [Ren.put_same] at hli
        obtain rfl := Option.some.inj hli
        rw [Ren.put_ne _ _ ej] at hlj
        have := hlt j oj lj hj hlj
        omega
    · by_cases ej : j = n
      · subst ej
        rw [Ren.put_same] at hlj
        obtain rfl := Option.some.inj hlj
        rw [Ren.put_ne _ _ ei] at hli
        have := hlt i oi li hi hli
        omega
      · rw [Ren.put_ne _ _ ei] at hli
        rw [Ren.put_ne _ _ ej] at hlj
        exact h.apart i j oi oj li lj hne hi hj hli hlj hb

/-- A new object in what is known. -/
theorem WRel.add {φ : Ren} {hp : Tr AObj} {w : World} (h : WRel φ hp w) {n : Nat} (hn : φ n = none) (o : AObj) : WRel φ (hp.set n (some o)) w := by
  refine ⟨fun i oi li hi hli => ?_, fun i j oi oj li lj hne hi hj hli hlj hb => ?_⟩
  · have e : i ≠ n := fun e => by subst e; rw [hn] at hli; cases hli
    rw [Tr.get_set_ne _ _ e] at hi
    exact h.obj i oi li hi hli
  · have e : i ≠ n := fun e => by subst e; rw [hn] at hli; cases hli
    have e' : j ≠ n := fun e => by subst e; rw [hn] at hlj; cases hlj
    rw [Tr.get_set_ne _ _ e] at hi
    rw [Tr.get_set_ne _ _ e'] at hj
    exact h.apart i j oi oj li lj hne hi hj hli hlj hb

theorem WRel.alloc {φ : Ren} {hp : Tr AObj} {w : World} (h : WRel φ hp w) {n : Nat} (hn : φ n = none) {l : Loc} (hl : l.blk = w.heap.size) (o : AObj) (ob : Obj)
    (ho : ORel (φ.put n l) o l (w.alloc ob)) : WRel (φ.put n l) (hp.set n (some o)) (w.alloc ob) :=
  WRel.alloc_view (h.add hn o) hn hl (Tr.get_set_same _ _ _) ob ho

theorem Ext.alloc {φ : Ren} {hp : Tr AObj} {w : World} {n : Nat} (hn : φ n = none) {l : Loc} (hl : l.blk = w.heap.size) (o : AObj) (ob : Obj) :
    Ext φ hp w (φ.put n l) (hp.set n (some o)) (w.alloc ob) := by
  refine ⟨Ren.le_put hn, rfl, rfl, rfl, by simp, fun k hk _ => heap_alloc_lt w ob hk, fun i oi li hi hli => ?_⟩
  by_cases e : i = n
  · subst e
    rw [Ren.put_same] at hli
    obtain rfl := Option.some.inj hli
    exact .inl (by omega)
  · rw [Tr.get_set_ne _ _ e] at hi
    rw [Ren.put_ne _ _ e] at hli
    exact born_same hi hli

/-- A new block, seen in a view that holds it already. -/
theorem Ext.alloc_view {φ : Ren} {hp : Tr AObj} {w : World} {n : Nat} (hn : φ n = none) {l : Loc} (hl : l.blk = w.heap.size) (ob : Obj) :
    Ext φ hp w (φ.put n l) hp (w.alloc ob) := by
  refine ⟨Ren.le_put hn, rfl, rfl, rfl, by simp, fun k hk _ => heap_alloc_lt w ob hk, fun i oi li hi hli => ?_⟩
  by_cases e : i = n
  · subst e
    rw [Ren.put_same] at hli
    obtain rfl := Option.some.inj hli
    exact .inl (by omega)
  · rw [Ren.put_ne _ _ e] at hli
    exact born_same hi hli

/-- One object that is written changes; its block alone is written. -/
theorem WRel.write {φ : Ren} {hp : Tr AObj} {w w' : World} (h : WRel φ hp w) {b : Nat} {o o' : AObj} {l : Loc} (hb : hp.get b = some o) (hl : φ b = some l) (hr : o.ro = false) (hr' : o'.ro = false)
    (hw : ∀ k, k ≠ l.blk → w'.heap[k]? = w.heap[k]?) (hm : MapsStep w w') (ho : ORel φ o' l w') : WRel φ (hp.set b (some o')) w' := by
  refine ⟨fun i oi li hi hli => ?_, fun i j oi oj li lj hne hi hj hli hlj he => ?_⟩
  · by_cases e : i = b
    · subst e
      rw [Tr.get_set_same] at hi
      obtain rfl := Option.some.inj hi
      rw [hl] at hli
      obtain rfl := Option.some.inj hli
      exact ho
    · rw [Tr.get_set_ne _ _ e] at hi
      refine (h.obj i oi li hi hli).keep (Ren.le_refl φ) (hw _ fun hc => ?_) hm
      have := h.apart i b oi o li l e hi hb hli hl hc
      rw [hr] at this; exact absurd this.2 (by simp)
  · have key : ∀ x y ox oy lx ly, x ≠ y → x = b → (hp.set b (some o')).get x = some ox → (hp.set b (some o')).get y = some oy → φ x = some lx → φ y = some ly → lx.blk = ly.blk → False := by
      intro x y ox oy lx ly hxy hx gx gy hlx hly hxb
      subst hx
      rw [Tr.get_set_ne _ _ (Ne.symm hxy)] at gy
      rw [hl] at hlx
      obtain rfl := Option.some.inj hlx
      have := h.apart x y o oy l ly hxy hb gy hl hly hxb
      rw [hr] at this; exact absurd this.1 (by simp)
    by_cases ei : i = b
    · exact (key i j oi oj li lj hne ei hi hj hli hlj he).elim
    · by_cases ej : j = b
      · exact (key j i oj oi lj li (Ne.symm hne) ej hj hi hlj hli he.symm).elim
      · rw [Tr.get_set_ne _ _ ei] at hi
        rw [Tr.get_set_ne _ _ ej] at hj
        exact h.apart i j oi oj li lj hne hi hj hli hlj he

theorem Ext.write {φ : Ren} {hp : Tr AObj} {w w' : World} {b : Nat} {o o' : AObj} {l : Loc} (hb : hp.get b = some o) (hl : φ b = some l) (hr : o.ro = false)
    (hw : ∀ k, k ≠ l.blk → w'.heap[k]? = w.heap[k]?) (hos : w'.os = w.os) (ht : w'.tape = w.tape) (hout : w'.output = w.output) (hsz : w'.heap.size = w.heap.size) :
    Ext φ hp w φ (hp.set b (some o')) w' := by
  refine ⟨Ren.le_refl φ, hos, ht, hout, by omega, fun k _ hk => hw k fun e => hk ⟨b, o, l, hb, hr, hl, e.symm⟩, fun i oi li hi hli => ?_⟩
  by_cases e : i = b
  · subst e
    rw [hl] at hli
    obtain rfl := Option.some.inj hli
    exact .inr ⟨i, o, l, hb, hl, rfl, fun h => by rw [hr] at h; cases h⟩
  · rw [Tr.get_set_ne _ _ e] at hi
    exact born_same hi hli

/-- What is no longer known. -/
theorem WRel.drop {φ : Ren} {hp : Tr AObj} {w : World} (h : WRel φ hp w) (b : Nat) : WRel φ (hp.set b none) w :=
  h.sub fun i o hi => by
    by_cases e : i = b
    · subst e; rw [Tr.get_set_same] at hi; cases hi
    · rwa [Tr.get_set_ne _ _ e] at hi

end Go.Proofs.YtkjkoejnicbieaaGreat.AM

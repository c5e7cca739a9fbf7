/-
  THE ABSTRACT MACHINE, part 18: what may be taken first, in a region whose order is drawn.
-/
import Derived.Test.YtkjkoejnicbieaaGreatAm17
import Derived.OrdersHeld
namespace Go.Proofs.YtkjkoejnicbieaaGreat.AM
open Go Go.RowKit

theorem ldVar_stable {P : Program} {φ : Ren} {hp : Tr AObj} {w : World} (hw : WRel φ hp w) {t : TypeId} {b o : Nat} {v : Value} (h : ldVar P hp t b o = some v) {l : Loc} (hl : φ b = some l) :
    ∃ v', (∀ u, Pre w u → (loadVar t ⟨l.blk, l.off + o, none⟩).run P u = .ok v' u) ∧ VRel φ v v' := by
  unfold ldVar at h
  cases ha : aggT P t with
  | none => simp [ha] at h
  | some ag =>
    cases ag with
    | false =>
      simp [ha] at h
      obtain ⟨v', h1, h2⟩ := ldCell_sound hw h hl
      exact ⟨v', fun u hu => by simp [loadVar, run_isAgg ha, hu.cell h1], h2⟩
    | true =>
      simp [ha] at h
      cases hs : szOf P t with
      | none => simp [hs] at h
      | some n =>
        simp [hs] at h
        obtain ⟨vs, h1, rfl⟩ := h
        obtain ⟨vs', g1, g2, g3⟩ := ldCells_sound hw h1 hl
        refine ⟨.agg vs'.toArray, fun u hu => ?_, .agg g3.1 g3.2⟩
        have := run_loadCells_list (P := P) u ⟨l.blk, l.off + o, none⟩ vs' (fun j x hx => hu.cell (g2 j x hx))
        rw [g1] at this
        simp [loadVar, run_isAgg ha, run_sizeOf hs, this]

/-- Operations whose value hangs on no world. -/
def freeK (P : Program) (op : Op) : Bool :=
  match op with
  | .move _ | .assign _ | .pick _ _ _ | .field _ _ _ | .extract _ _ | .indexAddr _ _ _ | .index _ _ _ | .slice _ _ _ _ _ | .unOp _ _ _ | .binOp _ _ _ _ _ => true
  | .build _ _ | .makeFunc _ _ _ | .makeInterface _ _ | .nilCheck _ => true
  | .fieldAddr t _ f => bigField P t f
  | _ => false

/-- Operations that read. -/
def stableK (op : Op) : Bool :=
  match op with
  | .load _ _ => true
  | .call ⟨.builtin .len, _, _⟩ => true
  | _ => false

/-- Operations that 'qop' alone carries out. -/
def quietK (op : Op) : Bool :=
  match op with
  | .store _ _ _ | .mapUpdate _ _ _ _ | .insert _ _ _ _ | .next _ _ | .entry _ => false
  | .call ⟨.builtin .len, _, _⟩ | .call ⟨.builtin .min, _, _⟩ | .call ⟨.builtin .max, _, _⟩ | .call ⟨.builtin .unsafeSliceData, _, _⟩ => true
  | .call _ => false
  | _ => true

theorem run_value {P : Program} {s : Sem Value} {n : Next} {w w' : World} (h : (do pure (Next.value (← s)) : Sem Next).run P w = .ok n w') : ∃ v, n = .value v ∧ s.run P w = .ok v w' := by
  obtain ⟨x, w1, h1, h2⟩ := bind_ok h
  simp at h2
  obtain ⟨rfl, rfl⟩ := h2
  exact ⟨x, rfl, h1⟩

theorem Free.value {P : Program} {s : Sem Value} (h : Free P s) : Free P (do Pure.pure (Next.value (← s)) : Sem Next) := h.bind fun _ => Free.pure _
theorem Stable.value {P : Program} {s : Sem Value} (h : Stable P s) : Stable P (do Pure.pure (Next.value (← s)) : Sem Next) := h.bind fun _ => (Free.pure _).stable

theorem freeK_free {P : Program} {o : Oper} (h : freeK P o.op = true) (hb : ∀ a b c d e, o.op ≠ .binOp a b c d e) (hn : ∀ x, o.op ≠ .nilCheck x) (ρ : Operand → Value) : Free P (execOp ρ o) := by
  obtain ⟨dst, op, ty, pos, after, guard⟩ := o
  simp only at h hb hn
  unfold freeK at h
  split at h
  · exact Free.pure _
  · exact Free.pure _
  · exact (free_asBool _).bind fun _ => Free.pure _
  · exact (free_field _ _ _).value
  · exact (free_extract _ _).value
  · exact (free_indexAt _ _ _).value
  · exact (free_index _ _ _).value
  · exact (free_sliceAt _ _ _ _ _).value
  · exact (free_unary _ _).value
  · exact absurd rfl (hb _ _ _ _ _)
  · exact (free_build _ _).value
  · exact Free.value (Free.pure _)
  · exact (free_makeInterface _ _).value
  · exact absurd rfl (hn _)
  · exact (free_fieldAt h _).value
  · cases h

theorem take_free {P : Program} {φ : Ren} {hp : Tr AObj} {w : World} {nx : Nat} {ev : Operand → Option Value} {ρ : Operand → Value} (hev : ∀ x u, ev x = some u → VRel φ u (ρ x)) (hw : WRel φ hp w) (hn : φ nx = none) {o : Oper} {v : Value}
    (hk : freeK P o.op = true) (h : qop P ev hp nx o.op = some (.same v)) : ∃ v', VRel φ v v' ∧ ∀ u, (execOp ρ o).run P u = .ok (.value v') u := by
  by_cases hb : ∃ a b c d e, o.op = .binOp a b c d e
  · obtain ⟨op, t, x, y, yt, hb⟩ := hb
    rw [hb] at h
    simp only [qop] at h
    split at h
    · rename_i u1 u2 hx hy
      split at h
      · rename_i r hr
        cases h
        have key : ∀ w : World, (do eqGuard op t x y (ρ x) (ρ y); binOp op t (ρ x) (ρ y) : Sem Value).run P w = .ok v w ∧ cst 0 v = true := fun w => binA_sound (w := w) (hev _ _ hx) (hev _ _ hy) hr
        refine ⟨v, cst_rel φ 0 v (key w).2, fun u => ?_⟩
        have e : execOp ρ o = (do pure (.value (← (do eqGuard op t x y (ρ x) (ρ y); binOp op t (ρ x) (ρ y))))) := by
          unfold execOp; rw [hb]
        rw [e, Sem.run_bind, (key u).1]
        rfl
      · cases h
    · cases h
  · by_cases hc : ∃ x, o.op = .nilCheck x
    · obtain ⟨x, hc⟩ := hc
      rw [hc] at h
      simp only [qop] at h
      have e : execOp ρ o = execOp ρ ⟨o.dst, .nilCheck x, o.type, o.pos, o.after, o.guard⟩ := by rw [← hc]
      split at h
      · rename_i a hx
        cases h
        have hv := hev _ _ hx
        refine ⟨ρ x, hv, fun u => ?_⟩
        rw [e]
        generalize hz : ρ x = z at hv
        cases hv
        simp [execOp, hz]
      · rename_i f as cs hx
        cases h
        have hv := hev _ _ hx
        refine ⟨ρ x, hv, fun u => ?_⟩
        rw [e]
        generalize hz : ρ x = z at hv
        cases hv
        simp [execOp, hz]
      · rename_i t y hx
        cases h
        have hv := hev _ _ hx
        refine ⟨ρ x, hv, fun u => ?_⟩
        rw [e]
        generalize hz : ρ x = z at hv
        cases hv
        simp [execOp, hz]
      · cases h
    · have hf := freeK_free hk (fun a b c d e he => hb ⟨a, b, c, d, e, he⟩) (fun x he => hc ⟨x, he⟩) ρ
      obtain ⟨v', h1, h2⟩ := qop_sound hev hw hn h
      exact ⟨v', h2, fun u => (hf _ _ _ h1).2 u⟩

theorem take_stable {P : Program} {φ : Ren} {hp : Tr AObj} {w : World} {nx : Nat} {ev : Operand → Option Value} {ρ : Operand → Value} (hev : ∀ x u, ev x = some u → VRel φ u (ρ x)) (hw : WRel φ hp w) (hn : φ nx = none) {o : Oper} {v : Value}
    (hk : stableK o.op = true) (h : qop P ev hp nx o.op = some (.same v)) : ∃ v', VRel φ v v' ∧ ∀ u, Pre w u → (execOp ρ o).run P u = .ok (.value v') u := by
  obtain ⟨dst, op, ty, pos, after, guard⟩ := o
  simp only at h hk
  unfold stableK at hk
  split at hk
  · rename_i t x
    simp only [qop] at h
    split at h
    · rename_i b o hx
      split at h
      · rename_i v1 hv
        cases h
        have hx' := hev _ _ hx
        generalize hz : ρ x = z at hx'
        cases hx' with
        | @ptr _ _ l hl =>
          obtain ⟨v', h1, h2⟩ := ldVar_stable hw hv hl
          refine ⟨v', h2, fun u hu => ?_⟩
          have e : execOp ρ ⟨dst, .load t x, ty, pos, after, guard⟩ = (do pure (.value (← Instr.loadAt t (ρ x)))) := rfl
          rw [e, hz]
          simp [Instr.loadAt, Instr.sureAddr, h1 u hu]
      · cases h
    · cases h
  · rename_i args ts
    obtain ⟨v', h1, h2⟩ := qop_sound (o := ⟨dst, .call ⟨.builtin .len, args, ts⟩, ty, pos, after, guard⟩) hev hw hn h
    have e : execOp ρ ⟨dst, .call ⟨.builtin .len, args, ts⟩, ty, pos, after, guard⟩ = (do pure (.value (← Builtin.len_ ts ty (args.map ρ)))) := rfl
    rw [e] at h1 ⊢
    exact ⟨v', h2, fun u hu => ((stable_len _ _ _).value _ _ _ h1).2 u hu⟩
  · cases hk

/-! ### Every order, with what the quiet operations leave alone -/
section
variable {P : Program} {ops : Array Oper} {Q : Exit → Act → World → Prop}

def quietAt (ops : Array Oper) (i : Nat) : Bool :=
  match ops[i]? with
  | some o => quietK o.op
  | none => false

/-- Whatever order is picked from here on; behind a quiet operation the blocks stand as they were. -/
def wpAnyT (P : Program) (ops : Array Oper) (Q : Exit → Act → World → Prop) : Nat → Array Bool → Act → World → Prop
  | 0, listed, a, w => Region.ready .any ops listed = [] ∧ Q .normal a w
  | fuel + 1, listed, a, w =>
    (Region.ready .any ops listed = [] → Q .normal a w) ∧
    ∀ i ∈ Region.ready .any ops listed, wpOp P ops Q i (fun a' w' => (quietAt ops i = true → Pre w w') ∧ wpAnyT P ops Q fuel (listed.setIfInBounds i true) a' w') a w

theorem wpAny_of_T : ∀ (fuel : Nat) (listed : Array Bool) (a : Act) (w : World), wpAnyT P ops Q fuel listed a w → wpAny P .any ops Q fuel listed a w
  | 0, _, _, _, h => h
  | fuel + 1, _, _, _, h => ⟨h.1, fun i hi => wpOp_mono (fun a' w' h' => wpAny_of_T fuel _ a' w' h'.2) (h.2 i hi)⟩

/-- What waits for number 'i', or for what waits for it. -/
def Waits (ops : Array Oper) (i : Nat) (D : List Nat) : Prop :=
  ∀ j ∈ D, ∃ o, ops[j]? = some o ∧ ∃ e ∈ o.after, Region.binds .any e = true ∧ (e.on = i ∨ e.on ∈ D)

theorem wpAnyT_first {R : World → World → Prop} {i : Nat} {oi : Oper} {v : Value} (hi : ops[i]? = some oi) (hsel : ∀ (j : Nat) (o : Oper) cs b, ops[j]? = some o → o.op ≠ .select cs b)
    (hQ : ∀ c a w, Q (.panic c) (a.put oi.dst v) w → Q (.panic c) a w) (hR : ∀ u v w, R u v → R v w → R u w) {D : List Nat} (hD : Waits ops i D) :
    ∀ (fuel : Nat) (listed : Array Bool) (a : Act) (w0 w : World), (∀ j ∈ D, listed.getD j false = false) →
      (∀ j oj, ops[j]? = some oj → j ≠ i → listed.getD j true = false → j ∉ D → oi.apart ops oj = true ∧ ∀ u u', (quietAt ops j = true → Pre u u') → R u u') →
      i ∈ Region.ready .any ops listed → YieldsIf P ops (R w0) oi v a → R w0 w → (quietAt ops i = true) →
      wpAnyT P ops Q fuel (listed.setIfInBounds i true) (a.put oi.dst v) w → wpAnyT P ops Q (fuel + 1) listed a w := by
  intro fuel
  induction fuel with
  | zero =>
    intro listed a w0 w hDl hfree hr hy hS hqi H
    refine ⟨fun h => (by rw [h] at hr; cases hr), fun j hj => ?_⟩
    by_cases hji : j = i
    · subst hji; exact hy.wpOp hi hS ⟨fun _ => Pre.refl _, H⟩
    · have := ready_mono hj hji
      rw [H.1] at this
      cases this
  | succ fuel ih =>
    intro listed a w0 w hDl hfree hr hy hS hqi H
    refine ⟨fun h => (by rw [h] at hr; cases hr), fun j hj => ?_⟩
    by_cases hji : j = i
    · subst hji; exact hy.wpOp hi hS ⟨fun _ => Pre.refl _, H⟩
    · have h1 := H.2 j (ready_mono hj hji)
      obtain ⟨hjun, oj, hoj, hall⟩ := mem_ready.1 hj
      have hiun : listed.getD i false = false := by
        have h0 := (mem_ready.1 hr).1
        rcases Nat.lt_or_ge i listed.size with h' | h'
        · simp [h'] at h0 ⊢; exact h0
        · simp [Array.getElem?_eq_none h']
      have hnot : j ∉ D := fun hjD => by
        obtain ⟨o, ho, e, he, hb, hor⟩ := hD j hjD
        rw [hoj] at ho
        cases ho
        have h1 := hall e he hb
        rcases hor with heq | hmem
        · rw [heq, hiun] at h1; cases h1
        · rw [hDl _ hmem] at h1; cases h1
      obtain ⟨f1, f2⟩ := hfree j oj hoj hji hjun hnot
      have h2 := wpOp_putIf hoj f1 (fun cs b => hsel i oi cs b hi) (fun cs b => hsel j oj cs b hoj) hQ hy h1
      have hfree' : ∀ k ok, ops[k]? = some ok → k ≠ i → (listed.setIfInBounds j true).getD k true = false →
          k ∉ D → oi.apart ops ok = true ∧ ∀ u u', (quietAt ops k = true → Pre u u') → R u u' := fun k ok hk hki hun hno => by
        refine hfree k ok hk hki ?_ hno
        by_cases hjk : j = k
        · subst hjk; exact hjun
        · rw [getD_set_ne true hjk] at hun; exact hun
      have hDl' : ∀ k ∈ D, (listed.setIfInBounds j true).getD k false = false := fun k hk => by
        have hjk : j ≠ k := fun e => by rw [e] at hnot; exact hnot hk
        rw [getD_set_ne false hjk]
        exact hDl k hk
      refine wpOp_mono (fun a' w' h3 => ⟨h3.2.1, ih (listed.setIfInBounds j true) a' w0 w' hDl' hfree' (ready_mono hr (Ne.symm hji)) h3.1 (hR _ _ _ hS (f2 _ _ h3.2.1)) hqi ?_⟩) h2
      rw [Array.setIfInBounds_comm _ _ hji]
      exact h3.2.2
end

/-! ### The tests, as Bools -/
/-- What may come up now. -/
def rdy (ops : Array Oper) (listed : Array Bool) : List Nat :=
  (List.range ops.size).filter fun i => !listed.getD i true && match ops[i]? with
    | some o => o.after.toList.all fun e => !Region.binds .any e || listed.getD e.on false
    | none => false

theorem rdy_eq (ops : Array Oper) (listed : Array Bool) : rdy ops listed = Region.ready .any ops listed := by
  unfold rdy Region.ready
  congr 1
  funext i
  cases h : ops[i]? with
  | none => simp
  | some o => simp [Array.all_toList]

/-- What waits for number 'i', gathered in the order of the text. -/
def waitsL (i : Nat) : List Oper → Nat → List Nat → List Nat
  | [], _, D => D
  | o :: os, j, D => waitsL i os (j + 1) (bif o.after.toList.any (fun e => Region.binds .any e && (Nat.beq e.on i || D.any (Nat.beq e.on))) then j :: D else D)

theorem waitsL_ok {ops : Array Oper} {i : Nat} : ∀ (os : List Oper) (j : Nat) (D : List Nat), (∀ k o, os[k]? = some o → ops[j + k]? = some o) → Waits ops i D → Waits ops i (waitsL i os j D) := by
  intro os
  induction os with
  | nil => intro j D _ h; exact h
  | cons o os ih =>
    intro j D hj h
    unfold waitsL
    refine ih (j + 1) _ (fun k x hk => by have := hj (k + 1) x (by simpa using hk); rwa [show j + (k + 1) = j + 1 + k from by omega] at this) ?_
    cases hc : o.after.toList.any (fun e => Region.binds .any e && (Nat.beq e.on i || D.any (Nat.beq e.on))) with
    | false => exact h
    | true =>
      simp only [cond_true]
      intro k hk
      rcases List.mem_cons.1 hk with rfl | hk
      · obtain ⟨e, he, hb⟩ := List.any_eq_true.1 hc
        simp only [Bool.and_eq_true, Bool.or_eq_true, List.any_eq_true] at hb
        refine ⟨o, by simpa using hj 0 o rfl, e, by simpa using he, hb.1, ?_⟩
        rcases hb.2 with h1 | ⟨x, hx, h2⟩
        · exact .inl (Nat.eq_of_beq_eq_true h1)
        · exact .inr (List.mem_cons_of_mem _ (by rw [Nat.eq_of_beq_eq_true h2]; exact hx))
      · obtain ⟨o', ho', e, he, hb, hor⟩ := h k hk
        exact ⟨o', ho', e, he, hb, hor.imp id (List.mem_cons_of_mem _)⟩

def waiting (ops : Array Oper) (i : Nat) : List Nat := waitsL i ops.toList 0 []

theorem waiting_ok (ops : Array Oper) (i : Nat) : Waits ops i (waiting ops i) :=
  waitsL_ok _ _ _ (fun k o hk => by simpa using hk) (fun j hj => by cases hj)

/-- Does nobody who may still come up ahead of 'i' mind, or is minded? -/
def aptL (ops : Array Oper) (listed : Array Bool) (quiet : Bool) (i : Nat) (oi : Oper) (D : List Nat) : List Oper → Nat → Bool
  | [], _ => true
  | oj :: os, j => (Nat.beq j i || listed.getD j true || D.any (Nat.beq j) || (oi.apart ops oj && (!quiet || quietK oj.op))) && aptL ops listed quiet i oi D os (j + 1)

def apt (ops : Array Oper) (listed : Array Bool) (quiet : Bool) (i : Nat) : Bool :=
  match ops[i]? with
  | none => false
  | some oi => (waiting ops i).all (fun j => !listed.getD j false) && aptL ops listed quiet i oi (waiting ops i) ops.toList 0

theorem aptL_spec {ops : Array Oper} {listed : Array Bool} {quiet : Bool} {i : Nat} {oi : Oper} {D : List Nat} : ∀ (os : List Oper) (j : Nat), aptL ops listed quiet i oi D os j = true → ∀ k oj, os[k]? = some oj → j + k ≠ i → listed.getD (j + k) true = false → j + k ∉ D →
    oi.apart ops oj = true ∧ (quiet = true → quietK oj.op = true) := by
  intro os
  induction os with
  | nil => intro j _ k oj hk; simp at hk
  | cons o os ih =>
    intro j h k oj hk hne hun hno
    simp only [aptL, Bool.and_eq_true] at h
    cases k with
    | zero =>
      simp at hk
      subst hk
      have h1 := h.1
      simp only [Nat.add_zero] at hne hun hno
      simp only [Bool.or_eq_true, hun, Bool.false_eq_true, or_false, Bool.and_eq_true, Bool.not_eq_true', List.any_eq_true] at h1
      rcases h1 with (h1 | ⟨x, hx, h2⟩) | h1
      · exact absurd (Nat.eq_of_beq_eq_true h1) hne
      · exact absurd (by rw [Nat.eq_of_beq_eq_true h2]; exact hx) hno
      · refine ⟨h1.1, fun hq => ?_⟩
        rcases h1.2 with h2 | h2
        · rw [hq] at h2; cases h2
        · exact h2
    | succ k =>
      have e : j + (k + 1) = j + 1 + k := by omega
      rw [e] at hne hun hno
      exact ih (j + 1) h.2 k oj (by simpa using hk) hne hun hno

theorem apt_spec {ops : Array Oper} {listed : Array Bool} {quiet : Bool} {i : Nat} {oi : Oper} (hi : ops[i]? = some oi) (h : apt ops listed quiet i = true) :
    (∀ j ∈ waiting ops i, listed.getD j false = false) ∧ ∀ (j : Nat) (oj : Oper), ops[j]? = some oj → j ≠ i → listed.getD j true = false → j ∉ waiting ops i → oi.apart ops oj = true ∧ (quiet = true → quietAt ops j = true) := by
  simp only [apt, hi, Bool.and_eq_true, List.all_eq_true, Bool.not_eq_true'] at h
  refine ⟨h.1, fun j oj hj hne hun hno => ?_⟩
  have := aptL_spec _ _ h.2 j oj (by simpa using hj) (by simpa using hne) (by simpa using hun) (by simpa using hno)
  exact ⟨this.1, fun hq => by simp only [quietAt, hj]; exact this.2 hq⟩

def canFree (P : Program) (ops : Array Oper) (listed : Array Bool) (i : Nat) : Bool :=
  (match ops[i]? with
   | some o => freeK P o.op
   | none => false) && apt ops listed false i

def canStable (ops : Array Oper) (listed : Array Bool) (i : Nat) : Bool :=
  (match ops[i]? with
   | some o => stableK o.op
   | none => false) && apt ops listed true i

def noSel (ops : Array Oper) : Bool := ops.toList.all fun o => match o.op with | .select .. => false | _ => true

theorem noSel_spec {ops : Array Oper} (h : noSel ops = true) (j : Nat) (o : Oper) (cs : Array SelectCase) (b : Bool) (ho : ops[j]? = some o) : o.op ≠ .select cs b := by
  intro heq
  have := List.all_eq_true.1 h o (by simpa using Array.mem_of_getElem? ho)
  simp [heq] at this
end Go.Proofs.YtkjkoejnicbieaaGreat.AM

/-
  THE ABSTRACT MACHINE, part 10: stores; maps that are written; ranges that go on.
-/
import Derived.Test.YtkjkoejnicbieaaGreatAm9
import Derived.Maps.RangeRun
namespace Go.Proofs.YtkjkoejnicbieaaGreat.AM
open Go Go.RowKit

/-- One block is written. -/
structure Wr (w w' : World) (b : Nat) (ob : Obj) : Prop where
  here : w'.heap[b]? = some ob
  other : ∀ k, k ≠ b → w'.heap[k]? = w.heap[k]?
  os : w'.os = w.os
  tape : w'.tape = w.tape
  output : w'.output = w.output
  size : w'.heap.size = w.heap.size

theorem Wr.drew {w w' : World} {b : Nat} {ob : Obj} (h : Wr w.drew w' b ob) : Wr w w' b ob := ⟨h.here, h.other, h.os, h.tape, h.output, h.size⟩

theorem wr_set (w : World) {r : Nat} {old : Obj} (h : w.heap[r]? = some old) (o : Obj) : Wr w { w with heap := w.heap.setIfInBounds r o } r o := by
  have hlt : r < w.heap.size := by
    rcases Nat.lt_or_ge r w.heap.size with h' | h'
    · exact h'
    · simp [Array.getElem?_eq_none h'] at h
  refine ⟨by simp [hlt], fun k hk => ?_, rfl, rfl, rfl, by simp⟩
  exact Array.getElem?_setIfInBounds_ne (Ne.symm hk)

theorem run_setObj_wr {P : Program} {w : World} {r : Nat} {old : Obj} (h : w.heap[r]? = some old) (hc : ∀ c e f, old ≠ .cells c e f) (o : Obj) : ∃ w', (setObj r o).run P w = .ok () w' ∧ Wr w w' r o := by
  refine ⟨_, ?_, wr_set w h o⟩
  unfold setObj
  cases old <;> first | exact absurd rfl (hc _ _ _) | simp only [Sem.run, h]

/-! ### Stores of cells -/
theorem run_storeCells {P : Program} {b : Nat} {e : TypeId} {fr : Nat × Nat} (off : Nat) : ∀ (vs : List Value) (k : Nat) (w : World) (c : Array Value), w.heap[b]? = some (.cells c e fr) → off + k + vs.length ≤ c.size →
    (∀ i, i < vs.length → ¬ (fr.1 ≤ off + k + i ∧ off + k + i < fr.2)) → (∀ v ∈ vs, v.oneCell' = true) →
    ∃ w', (storeCells ⟨b, off, none⟩ vs k).run P w = .ok () w' ∧ Wr w w' b (.cells (putL c.toList (off + k) vs).toArray e fr) := by
  intro vs
  induction vs with
  | nil => intro k w c hb _ _ _; exact ⟨w, by simp [storeCells], ⟨by simpa [putL] using hb, fun _ _ => rfl, rfl, rfl, rfl, rfl⟩⟩
  | cons v vs ih =>
    intro k w c hb hlen hfz hone
    have hlt : off + k < c.size := by simp at hlen; omega
    have hcell : w.cell? ⟨b, off + k, none⟩ = some c[off + k] := by simp [World.cell?, hb, hlt]
    have hfr : w.frozen? ⟨b, off + k, none⟩ = false := by
      have := hfz 0 (by simp)
      simp [World.frozen?, hb]
      simp at this
      exact this
    have hblt : b < w.heap.size := by
      rcases Nat.lt_or_ge b w.heap.size with h' | h'
      · exact h'
      · simp [Array.getElem?_eq_none h'] at hb
    have hb2 : (w.setCell ⟨b, off + k, none⟩ v).heap[b]? = some (.cells (c.setIfInBounds (off + k) v) e fr) := by
      simp [World.setCell, Array.getElem?_modify, hb]
    obtain ⟨w', h1, h2⟩ := ih (k + 1) (w.setCell ⟨b, off + k, none⟩ v) (c.setIfInBounds (off + k) v) hb2 (by simp at hlen ⊢; omega) (fun i hi => by
      have := hfz (i + 1) (by simp; omega)
      have e1 : off + (k + 1) + i = off + k + (i + 1) := by omega
      rw [e1]; exact this) (fun x hx => hone x (by simp [hx]))
    refine ⟨w', ?_, ⟨?_, fun j hj => ?_, h2.os, h2.tape, h2.output, by rw [h2.size]; simp⟩⟩
    · simp only [storeCells, Sem.run_bind, addr_add]
      rw [run_store P w ⟨b, off + k, none⟩ v .plain (hone v (by simp)), hcell]
      simp only [hfr, Bool.false_eq_true, if_false, Result.andThen_ok]
      exact h1
    · have := h2.here
      simpa [putL, Nat.add_assoc] using this
    · rw [h2.other j hj]
      exact Below.heap_setCell _ _ _ _ hj

theorem putL_get (vs : List Value) : ∀ (c : List Value) (o i : Nat), o + vs.length ≤ c.length → (putL c o vs)[i]? = if o ≤ i ∧ i < o + vs.length then vs[i - o]? else c[i]? := by
  induction vs with
  | nil => intro c o i _; simp [putL]; omega
  | cons v vs ih =>
    intro c o i h
    simp at h
    simp only [putL]
    rw [ih _ _ _ (by simp; omega)]
    by_cases h1 : o + 1 ≤ i ∧ i < o + 1 + vs.length
    · rw [if_pos h1, if_pos (by simp; omega)]
      have : i - o = (i - (o + 1)) + 1 := by omega
      rw [this]; simp
    · rw [if_neg h1]
      by_cases h2 : i = o
      · subst h2
        rw [if_pos (by simp), List.getElem?_set_self (by omega)]
        simp
      · rw [if_neg (by simp; omega), List.getElem?_set_ne (by omega)]

/-- Cells of a row that are written, on both sides. -/
theorem put_rel {φ : Ren} {c : List Value} {c' : Array Value} {off : Nat} (h : ∀ i v, c[i]? = some v → ∃ v', c'[off + i]? = some v' ∧ VRel φ v v') {vs vs' : List Value} (hv : LRel φ vs vs') {o : Nat} (ho : o + vs.length ≤ c.length) (hc : off + c.length ≤ c'.size) :
    ∀ i v, (putL c o vs)[i]? = some v → ∃ v', (putL c'.toList (off + o) vs').toArray[off + i]? = some v' ∧ VRel φ v v' := by
  intro i v hi
  have hl := hv.length
  rw [putL_get _ _ _ _ ho] at hi
  rw [List.getElem?_toArray, putL_get _ _ _ _ (by simp; omega)]
  by_cases h1 : o ≤ i ∧ i < o + vs.length
  · rw [if_pos h1] at hi
    rw [if_pos (by omega)]
    have e : off + i - (off + o) = i - o := by omega
    rw [e]
    have hlt : i - o < vs'.length := by omega
    exact ⟨vs'[i - o], List.getElem?_eq_getElem hlt, hv.get? _ _ _ hi (List.getElem?_eq_getElem hlt)⟩
  · rw [if_neg h1] at hi
    rw [if_neg (by omega)]
    simpa using h i v hi

def allOne : List Value → Bool
  | [] => true
  | v :: vs => bif v.oneCell' then allOne vs else false

theorem allOne_mem {vs : List Value} (h : allOne vs = true) : ∀ v ∈ vs, v.oneCell' = true := by
  induction vs with
  | nil => intro v hv; simp at hv
  | cons a vs ih =>
    simp only [allOne] at h
    cases ha : a.oneCell' with
    | false => simp [ha] at h
    | true =>
      simp only [ha, cond_true] at h
      intro v hv
      rcases List.mem_cons.1 hv with rfl | hv
      · exact ha
      · exact ih h v hv

theorem allOne_rel {φ : Ren} {vs ws : List Value} (h : LRel φ vs ws) (ha : allOne vs = true) : ∀ v ∈ ws, v.oneCell' = true := by
  intro v hv
  obtain ⟨u, hu, hr⟩ := All2.left h v hv
  rw [hr.oneCell]; exact allOne_mem ha u hu

/-- Cells are written into an abstract row. -/
def stCells (hp : Tr AObj) (b o : Nat) (vs : List Value) : Option (Tr AObj) :=
  match hp.get b with
  | some (.cells c e sz fz false hd) => bif Nat.ble fz o && Nat.ble (o + vs.length) c.length && allOne vs then some (hp.set b (some (.cells (putL c o vs) e sz fz false hd))) else none
  | _ => none

theorem mapsStep_cells {w w' : World} {b : Nat} {ob : Obj} {c : Array Value} {e : TypeId} {fr : Nat × Nat} (hb : w.heap[b]? = some (.cells c e fr)) (h : Wr w w' b ob) : MapsStep w w' :=
  MapsStep.of_same fun k es ck hk => by
    have hne : k ≠ b := fun x => by subst x; rw [hb] at hk; cases hk
    rw [h.other k hne]; exact hk

theorem stCells_sound {P : Program} {φ : Ren} {hp hp' : Tr AObj} {w : World} (hw : WRel φ hp w) {b o : Nat} {vs vs' : List Value} (hv : LRel φ vs vs') (h : stCells hp b o vs = some hp') {l : Loc} (hl : φ b = some l) :
    ∃ w', (storeCells ⟨l.blk, l.off + o, none⟩ vs').run P w = .ok () w' ∧ WRel φ hp' w' ∧ Ext φ hp w φ hp' w' := by
  unfold stCells at h
  split at h
  · rename_i c e sz fz hd hg
    cases hc : (Nat.ble fz o && Nat.ble (o + vs.length) c.length && allOne vs) with
    | false => simp [hc] at h
    | true =>
      simp only [hc, cond_true, Option.some.injEq] at h
      subst h
      simp at hc
      obtain ⟨⟨hfz, hlen⟩, hone⟩ := hc
      obtain ⟨c', fr, h1, h0, hz, h2, h3, h4, h5⟩ := hw.obj _ _ _ hg hl
      have hll := hv.length
      obtain ⟨w', r1, r2⟩ := run_storeCells (P := P) (b := l.blk) (e := e) (fr := fr) (l.off + o) vs' 0 w c' h1 (by omega) (fun i hi hh => by have := h5 (by omega); omega) (allOne_rel hv hone)
      refine ⟨w', r1, ?_, ?_⟩
      · refine WRel.write hw (o := .cells c e sz fz false hd) hg hl rfl rfl r2.other (mapsStep_cells h1 r2) ⟨_, fr, r2.here, h0, hz, by simp [putL_length]; omega, by simp [putL_length]; omega, ?_, h5⟩
        exact put_rel h4 hv hlen (by omega)
      · exact Ext.write hg hl rfl r2.other r2.os r2.tape r2.output r2.size
  · cases h

def storeA (P : Program) (hp : Tr AObj) (t : TypeId) (a v : Value) : Option (Tr AObj) :=
  match a with
  | .pointer (some ⟨b, o, none⟩) => match szOf P t with
    | some n => bif Nat.beq v.cells.size n then stCells hp b o v.cells.toList else none
    | none => none
  | _ => none

theorem storeA_sound {P : Program} {φ : Ren} {hp hp' : Tr AObj} {w : World} (hw : WRel φ hp w) {t : TypeId} {a a' v v' : Value} (ha : VRel φ a a') (hv : VRel φ v v') (h : storeA P hp t a v = some hp') :
    ∃ w', (Instr.storeAt t a' v').run P w = .ok () w' ∧ WRel φ hp' w' ∧ Ext φ hp w φ hp' w' := by
  unfold storeA at h
  split at h
  · rename_i b o
    split at h
    · rename_i n hs
      cases hb : Nat.beq v.cells.size n with
      | false => simp [hb] at h
      | true =>
        simp only [hb, cond_true] at h
        have hn := Nat.eq_of_beq_eq_true hb
        cases ha with
        | @ptr _ _ l hl =>
          obtain ⟨w', r1, r2, r3⟩ := stCells_sound (P := P) hw hv.cells.lrel h hl
          refine ⟨w', ?_, r2, r3⟩
          have := hv.cells.1
          simp only [Instr.storeAt, Instr.sureAddr, Sem.run_bind, Sem.run_pure, Result.andThen_ok, storeVar, run_sizeOf hs]
          rw [if_neg (by omega)]
          exact r1
    · cases h
  · cases h

/-! ### Maps that are written -/
def updA (P : Program) (kt : TypeId) (k v : Value) : List (Value × Value) → Option (List (Value × Value))
  | [] => some []
  | (k0, v0) :: r => match updA P kt k v r with
    | none => none
    | some r' => match keyEq P kt k k0 with
      | some true => bif Instr.sameBits 10000 k0 k then some ((k, v) :: r') else none
      | _ => some ((k0, v0) :: r')

/-- What the model does to the entries. -/
def updE (P : Program) (kt : TypeId) (k v : Value) (m : MapEntry) : MapEntry := if keyEq P kt k m.key = some true then { m with key := k, val := v } else m

theorem updA_rel {P : Program} {φ : Ren} {kt : TypeId} {k v v' : Value} (hv : VRel φ v v') : ∀ (es es2 : List (Value × Value)) (p : List MapEntry), updA P kt k v es = some es2 →
    All2 (fun (e : Value × Value) (m : MapEntry) => m.key = e.1 ∧ VRel φ e.2 m.val) es p → All2 (fun (e : Value × Value) (m : MapEntry) => m.key = e.1 ∧ VRel φ e.2 m.val) es2 (p.map (updE P kt k v')) := by
  intro es
  induction es with
  | nil => intro es2 p h ha; simp [updA] at h; subst h; cases ha; exact .nil
  | cons e es ih =>
    intro es2 p h ha
    obtain ⟨k0, v0⟩ := e
    cases ha with
    | @cons _ m _ p hm ht =>
      simp only [updA] at h
      cases hr : updA P kt k v es with
      | none => simp [hr] at h
      | some r' =>
        have ih' := ih r' p hr ht
        simp only [hr] at h
        simp only [List.map_cons]
        split at h
        · rename_i hk
          cases hs : Instr.sameBits 10000 k0 k with
          | false => simp [hs] at h
          | true =>
            simp only [hs, cond_true, Option.some.injEq] at h
            subst h
            refine .cons ?_ ih'
            simp only [updE, hm.1, hk, if_true]
            first | exact ⟨rfl, hv⟩ | exact ⟨trivial, hv⟩
        · rename_i hk
          cases h
          refine .cons ?_ ih'
          simp only [updE, hm.1]
          rw [if_neg hk]
          exact hm

theorem updA_same {P : Program} {kt : TypeId} {k v : Value} : ∀ (es es2 : List (Value × Value)), updA P kt k v es = some es2 → ∀ e ∈ es, keyEq P kt k e.1 = some true → Instr.sameBits 10000 e.1 k = true := by
  intro es
  induction es with
  | nil => intro es2 _ e he; simp at he
  | cons e es ih =>
    intro es2 h x hx hk
    obtain ⟨k0, v0⟩ := e
    simp only [updA] at h
    cases hr : updA P kt k v es with
    | none => simp [hr] at h
    | some r' =>
      simp only [hr] at h
      rcases List.mem_cons.1 hx with rfl | hx
      · simp only at hk
        simp only [hk] at h
        cases hs : Instr.sameBits 10000 k0 k with
        | false => simp [hs] at h
        | true => rfl
      · exact ih r' hr x hx hk

theorem hits_count {P : Program} {kt : TypeId} {k : Value} : ∀ (es : List (Value × Value)) (l : List Value), hits P kt k es = some l → (es.filter fun e => decide (keyEq P kt k e.1 = some true)).length = l.length := by
  intro es
  induction es with
  | nil => intro l h; simp [hits] at h; subst h; rfl
  | cons e es ih =>
    intro l h
    obtain ⟨k0, v⟩ := e
    simp only [hits] at h
    cases hc : cst 8 k0 with
    | false => simp [hc] at h
    | true =>
      simp only [hc, cond_true] at h
      cases hq : keyEq P kt k k0 with
      | none => simp [hq] at h
      | some b =>
        cases b with
        | true =>
          simp only [hq] at h
          cases hr : hits P kt k es with
          | none => simp [hr] at h
          | some l0 =>
            simp [hr] at h
            subst h
            simp [hq, ih l0 hr]
        | false =>
          simp only [hq] at h
          simp [hq, ih l h]

theorem all2_count {P : Program} {φ : Ren} {kt : TypeId} {k : Value} {es : List (Value × Value)} {p : List MapEntry} (h : All2 (fun (e : Value × Value) (m : MapEntry) => m.key = e.1 ∧ VRel φ e.2 m.val) es p) :
    (p.filter fun m => decide (keyEq P kt k m.key = some true)).length = (es.filter fun e => decide (keyEq P kt k e.1 = some true)).length := by
  induction h with
  | nil => rfl
  | @cons e m es p hm _ ih =>
    simp only [List.filter_cons, hm.1]
    split <;> simp [ih]

/-- The only entry that fits is changed alone. -/
theorem modify_only {q : MapEntry → Bool} {f : MapEntry → MapEntry} : ∀ (l : List MapEntry) (i : Nat) (m : MapEntry), (l.filter q).length = 1 → l[i]? = some m → q m = true → l.modify i f = l.map (fun m => if q m = true then f m else m) := by
  intro l
  induction l with
  | nil => intro i m h; simp at h
  | cons a l ih =>
    intro i m h hi hq
    cases hqa : q a with
    | true =>
      have hl : l.filter q = [] := by
        simp [hqa] at h
        simpa using h
      have hno : ∀ x ∈ l, q x = false := by
        intro x hx
        cases hx2 : q x with
        | false => rfl
        | true => have := List.mem_filter.2 ⟨hx, hx2⟩; rw [hl] at this; simp at this
      cases i with
      | zero =>
        have hid : l.map (fun m => if q m = true then f m else m) = l := (List.map_congr_left (g := id) (fun x hx => by simp [hno x hx])).trans (List.map_id l)
        simp [hqa, hid]
      | succ i =>
        simp at hi
        have := hno m (List.mem_of_getElem? hi)
        rw [hq] at this; cases this
    | false =>
      simp [hqa] at h
      cases i with
      | zero => simp at hi; subst hi; rw [hq] at hqa; cases hqa
      | succ i =>
        simp at hi
        simp [hqa, ih i m h hi hq]

end Go.Proofs.YtkjkoejnicbieaaGreat.AM

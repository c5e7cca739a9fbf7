/-
  THE ABSTRACT MACHINE, part 14: append.
-/
import Derived.Test.YtkjkoejnicbieaaGreatAm13
namespace Go.Proofs.YtkjkoejnicbieaaGreat.AM
open Go Go.RowKit

/-- The cells that a slice holds already. -/
def oldA (hp : Tr AObj) (size b o len : Nat) : Option (List Value) :=
  bif Nat.beq len 0 then some [] else ldCells hp b o (len * size)

def appA (P : Program) (hp : Tr AObj) (nx : Nat) (t u : TypeId) (s x : Value) : Option Out :=
  match P.underlying t with
  | some (.slice e) => match P.underlying u with
    | none | some (.int _) => none
    | some _ => match P.info? e with
      | none => none
      | some i => match i.zero with
        | none => none
        | some z => match srcA hp i.size x with
          | none => none
          | some (n, vs) => bif Nat.blt 0 i.size && Nat.beq z.cells.size i.size && cst 8 z then
            match s with
            | .slice none 0 cap =>
              bif Nat.beq n 0 then some ⟨some (.slice none 0 cap), hp, nx⟩
              else bif Nat.blt cap n && Nat.ble (n * i.bytes) 140737488355328 && Nat.ble n 140737488355328 then
                some ⟨some (.slice (some ⟨nx, 0, none⟩) n OPEN), hp.set nx (some (.cells vs e i.size 0 false true)), nx + 1⟩
              else none
            | .slice (some ⟨b, o, none⟩) len cap =>
              bif Nat.beq n 0 then bif Nat.ble len cap then some ⟨some s, hp, nx⟩ else none
              else bif Nat.ble ((len + n) * i.bytes) 140737488355328 && Nat.ble (len + n) 140737488355328 then
                bif Nat.blt cap OPEN then
                  bif Nat.ble (len + n) cap then
                    match stCells hp b (o + len * i.size) vs with
                    | some hp' => some ⟨some (.slice (some ⟨b, o, none⟩) (len + n) cap), hp', nx⟩
                    | none => none
                  else match oldA hp i.size b o len with
                    | some olds => some ⟨some (.slice (some ⟨nx, 0, none⟩) (len + n) OPEN), hp.set nx (some (.cells (olds ++ vs) e i.size 0 false true)), nx + 1⟩
                    | none => none
                else bif Nat.beq cap OPEN then
                  match hp.get b with
                  | some (.cells c e' sz fz false hd) => bif Nat.beq sz i.size && Nat.beq e' e then
                      bif Nat.blt 0 len && Nat.ble (o + (len + n) * i.size) c.length then
                        match stCells hp b (o + len * i.size) vs with
                        | some hp' => some ⟨some (.slice (some ⟨b, o, none⟩) (len + n) OPEN), hp', nx⟩
                        | none => none
                      else bif Nat.ble fz (bif Nat.beq len 0 then 0 else o + len * i.size) && allOne vs then
                        match oldA hp i.size b o len with
                        | some olds => some ⟨some (.slice (some ⟨nx, 0, none⟩) (len + n) OPEN),
                            (hp.set b none).set nx (some (.cells (olds ++ vs) e i.size (bif Nat.beq len 0 then 0 else fz - o) false (hd && Nat.beq o 0 && Nat.blt 0 len))), nx + 1⟩
                        | none => none
                      else none
                    else none
                  | _ => none
                else none
              else none
            | _ => none
          else none
  | _ => none

/-- A row that has grown, anew. -/
theorem grown_new {φ : Ren} {hp : Tr AObj} {w : World} (hw : WRel φ hp w) {nx : Nat} (hn : φ nx = none) {e : TypeId} {size need cap : Nat} {cs cs' zs : List Value} (hr : LRel φ cs cs') (hlen : cs'.length = need * size) (hz : zs.length = (cap - need) * size) (hcap : need ≤ cap) :
    ∃ φ', Ext φ hp w φ' (hp.set nx (some (.cells cs e size 0 false true))) (w.drew.alloc (.cells (cs' ++ zs).toArray e)) ∧ WRel φ' (hp.set nx (some (.cells cs e size 0 false true))) (w.drew.alloc (.cells (cs' ++ zs).toArray e)) ∧
      (∀ i, φ' i ≠ none → φ i ≠ none ∨ i = nx) ∧ VRel φ' (.slice (some ⟨nx, 0, none⟩) need OPEN) (.slice (some ⟨w.heap.size, 0, none⟩) need cap) := by
  have hfin : cap * size = cs'.length + zs.length := by rw [hlen, hz, ← Nat.add_mul]; congr 1; omega
  refine ⟨φ.put nx ⟨w.heap.size, 0, cap * size, size⟩, ?_, ?_, fun i hi => ?_, ?_⟩
  · exact (Ext.drew φ hp w).trans (Ext.alloc hn rfl _ _)
  · refine WRel.alloc hw.drew hn rfl _ _ ⟨_, (0, 0), heap_alloc_at _ _, rfl, fun _ => rfl, by simp [hfin], by simp [hfin, hr.length], fun i v hv => ?_, fun hh => by simp at hh⟩
    obtain ⟨v', g1, g2⟩ := hr.arel.get? (i := i) (v := v) (by simpa using hv)
    refine ⟨v', ?_, g2.mono (Ren.le_put hn)⟩
    simp only [List.getElem?_toArray] at g1
    have hlt : i < cs'.length := by
      rcases Nat.lt_or_ge i cs'.length with h | h
      · exact h
      · rw [List.getElem?_eq_none h] at g1; cases g1
    simp only [Nat.zero_add, List.getElem?_toArray]
    rw [List.getElem?_append_left hlt]; exact g1
  · by_cases hin : i = nx
    · exact .inr hin
    · rw [Ren.put_ne _ _ hin] at hi; exact .inl hi
  · exact VRel.sopen (l := ⟨w.heap.size, 0, cap * size, size⟩) (Ren.put_same _ _ _) hcap (by simp) (by simp) (fun _ => by simp)

theorem zeroCells_len (z : Array Value) (n : Nat) : (Builtin.zeroCells z n).toList.length = n * z.size := by simp [Builtin.zeroCells]


/-- A row that has grown in its place: the old one is forgotten. -/
theorem grown_in {P : Program} {φ : Ren} {hp : Tr AObj} {w : World} (hw : WRel φ hp w) {nx b : Nat} (hn : φ nx = none) {c : List Value} {e : TypeId} {size fz : Nat} {hd : Bool} (hg : hp.get b = some (.cells c e size fz false hd)) {l : Loc} (hl : φ b = some l)
    {o len n x cap : Nat} {olds vs vs' : List Value} (hvs : LRel φ vs vs') (hvl : vs'.length = n * size) (hold : oldA hp size b o len = some olds) (hroom : len + n ≤ cap) (hxo : l.off ≤ x) (hfin : x + cap * l.sz ≤ l.fin)
    (hexact : 0 < len → x = l.off + o ∧ x + cap * l.sz = l.fin) (hfz : fz ≤ (bif Nat.beq len 0 then 0 else o + len * size)) (hone : allOne vs = true) :
    ∃ φ' w', (storeCells ⟨l.blk, x + len * size, none⟩ vs').run P w = .ok () w' ∧
      Ext φ hp w φ' ((hp.set b none).set nx (some (.cells (olds ++ vs) e size (bif Nat.beq len 0 then 0 else fz - o) false (hd && Nat.beq o 0 && Nat.blt 0 len)))) w' ∧
      WRel φ' ((hp.set b none).set nx (some (.cells (olds ++ vs) e size (bif Nat.beq len 0 then 0 else fz - o) false (hd && Nat.beq o 0 && Nat.blt 0 len)))) w' ∧
      (∀ i, φ' i ≠ none → φ i ≠ none ∨ i = nx) ∧ VRel φ' (.slice (some ⟨nx, 0, none⟩) (len + n) OPEN) (.slice (some ⟨l.blk, x, none⟩) (len + n) cap) := by
  obtain ⟨c', fr, h1, h0, hz, h2, h3, h4, h5⟩ := hw.obj _ _ _ hg hl
  have hne : b ≠ nx := fun hh => by rw [hh, hn] at hl; cases hl
  have hmul : (len + n) * size = len * size + n * size := Nat.add_mul _ _ _
  have hcs : (len + n) * size ≤ cap * size := Nat.mul_le_mul_right _ hroom
  rw [h0] at hfin hexact
  -- what the cells ahead are
  have hfr : fr.1 ≠ fr.2 → fr.2 ≤ x + len * size := by
    intro hh
    have := h5 hh
    rcases Nat.eq_zero_or_pos len with hl0 | hl0
    · subst hl0
      simp at hfz
      omega
    · have hb : Nat.beq len 0 = false := by cases len <;> first | omega | rfl
      rw [hb] at hfz
      simp at hfz
      have := (hexact hl0).1
      omega
  obtain ⟨w', r1, r2⟩ := run_storeCells (P := P) (b := l.blk) (e := e) (fr := fr) (x + len * size) vs' 0 w c' h1 (by omega) (fun i hi hh => by have := hfr (by omega); omega) (allOne_rel hvs hone)
  have holdl : olds.length = len * size ∧ ∀ j v, olds[j]? = some v → ∃ v', c'[x + j]? = some v' ∧ VRel φ v v' := by
    unfold oldA at hold
    rcases Nat.eq_zero_or_pos len with hl0 | hl0
    · subst hl0
      simp at hold
      subst hold
      simp
    · have hb : Nat.beq len 0 = false := by cases len <;> first | omega | rfl
      rw [hb] at hold
      simp only [cond_false] at hold
      obtain ⟨g1, g2⟩ := ldCells_get hold
      refine ⟨g1, fun j v hv => ?_⟩
      have := g2 j v hv
      unfold ldCell at this
      rw [hg] at this
      obtain ⟨v', k1, k2⟩ := h4 _ _ this
      refine ⟨v', ?_, k2⟩
      rw [(hexact hl0).1, Nat.add_assoc]; exact k1
  have hother : ∀ i oi li, i ≠ b → hp.get i = some oi → φ i = some li → li.blk ≠ l.blk := by
    intro i oi li hib hi hli hh
    have := hw.apart i b oi _ li l hib hi hg hli hl hh
    simp [AObj.ro] at this
  have hvl2 := hvs.length
  refine ⟨φ.put nx ⟨l.blk, x, x + cap * size, size⟩, w', by simpa using r1, ⟨Ren.le_put hn, r2.os, r2.tape, r2.output, by rw [r2.size]; exact Nat.le_refl _, fun k hk ht => r2.other k fun hh => ht ⟨b, _, l, hg, rfl, hl, hh.symm⟩, fun i oi li hi hli => ?_⟩, ⟨?_, ?_⟩, fun i hi => ?_, ?_⟩
  · by_cases e1 : i = nx
    · subst e1
      rw [Ren.put_same] at hli
      cases hli
      exact .inr ⟨b, _, l, hg, hl, rfl, fun h => by cases h⟩
    · rw [Tr.get_set_ne _ _ e1] at hi
      by_cases e2 : i = b
      · subst e2; rw [Tr.get_set_same] at hi; cases hi
      · rw [Tr.get_set_ne _ _ e2] at hi
        rw [Ren.put_ne _ _ e1] at hli
        exact born_same hi hli
  · intro i oi li hi hli
    by_cases e1 : i = nx
    · subst e1
      rw [Tr.get_set_same] at hi
      rw [Ren.put_same] at hli
      cases hi
      cases hli
      refine ⟨_, fr, r2.here, rfl, fun hh => ?_, by simp [putL_length]; omega, by simp [holdl.1]; omega, fun j v hv => ?_, fun hh => ?_⟩
      · simp [Nat.blt_eq] at hh
        have := hz hh.1.1
        have := (hexact hh.2).1
        simp; omega
      · simp only [List.getElem?_toArray, Nat.add_zero]
        rw [putL_get _ _ _ _ (by simp; omega)]
        by_cases hj : j < len * size
        · rw [List.getElem?_append_left (by omega)] at hv
          rw [if_neg (by omega)]
          obtain ⟨v', k1, k2⟩ := holdl.2 j v hv
          exact ⟨v', by simpa using k1, k2.mono (Ren.le_put hn)⟩
        · rw [List.getElem?_append_right (by omega)] at hv
          have hlt : j - olds.length < vs.length := by
            rcases Nat.lt_or_ge (j - olds.length) vs.length with h | h
            · exact h
            · rw [List.getElem?_eq_none h] at hv; cases hv
          rw [if_pos (by omega)]
          have e2 : x + j - (x + len * size) = j - olds.length := by omega
          rw [e2]
          have hlt' : j - olds.length < vs'.length := by omega
          exact ⟨vs'[j - olds.length], List.getElem?_eq_getElem hlt', (hvs.get? _ _ _ hv (List.getElem?_eq_getElem hlt')).mono (Ren.le_put hn)⟩
      · have := h5 hh
        rcases Nat.eq_zero_or_pos len with hl0 | hl0
        · subst hl0
          simp at hfz ⊢
          omega
        · have hb : Nat.beq len 0 = false := by cases len <;> first | omega | rfl
          rw [hb]
          have := (hexact hl0).1
          simp; omega
    · rw [Tr.get_set_ne _ _ e1] at hi
      by_cases e2 : i = b
      · subst e2; rw [Tr.get_set_same] at hi; cases hi
      · rw [Tr.get_set_ne _ _ e2] at hi
        rw [Ren.put_ne _ _ e1] at hli
        exact (hw.obj i oi li hi hli).keep (Ren.le_put hn) (r2.other _ (hother i oi li e2 hi hli)) (mapsStep_cells h1 r2)
  · intro i j oi oj li lj hij hi hj hli hlj hbb
    have red : ∀ i oi li, i ≠ nx → ((hp.set b none).set nx (some (.cells (olds ++ vs) e size (bif Nat.beq len 0 then 0 else fz - o) false (hd && Nat.beq o 0 && Nat.blt 0 len)))).get i = some oi → (φ.put nx ⟨l.blk, x, x + cap * size, size⟩) i = some li →
        i ≠ b ∧ hp.get i = some oi ∧ φ i = some li := by
      intro i oi li e1 hi hli
      rw [Tr.get_set_ne _ _ e1] at hi
      rw [Ren.put_ne _ _ e1] at hli
      by_cases e2 : i = b
      · subst e2; rw [Tr.get_set_same] at hi; cases hi
      · rw [Tr.get_set_ne _ _ e2] at hi
        exact ⟨e2, hi, hli⟩
    by_cases e1 : i = nx
    · have e2 : j ≠ nx := fun hh => hij (e1.trans hh.symm)
      obtain ⟨f1, f2, f3⟩ := red j oj lj e2 hj hlj
      subst e1
      rw [Ren.put_same] at hli
      cases hli
      exact absurd hbb.symm (hother j oj lj f1 f2 f3)
    · obtain ⟨f1, f2, f3⟩ := red i oi li e1 hi hli
      by_cases e2 : j = nx
      · subst e2
        rw [Ren.put_same] at hlj
        cases hlj
        exact absurd hbb (hother i oi li f1 f2 f3)
      · obtain ⟨k1, k2, k3⟩ := red j oj lj e2 hj hlj
        exact hw.apart i j oi oj li lj hij f2 k2 f3 k3 hbb
  · by_cases hin : i = nx
    · exact .inr hin
    · rw [Ren.put_ne _ _ hin] at hi; exact .inl hi
  · exact VRel.sopen (l := ⟨l.blk, x, x + cap * size, size⟩) (Ren.put_same _ _ _) hroom (Nat.le_refl _) (Nat.le_refl _) (fun _ => ⟨rfl, rfl⟩)

end Go.Proofs.YtkjkoejnicbieaaGreat.AM

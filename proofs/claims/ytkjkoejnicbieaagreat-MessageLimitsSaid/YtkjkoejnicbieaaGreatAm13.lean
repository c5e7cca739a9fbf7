/-
  THE ABSTRACT MACHINE, part 13: append; the text of bytes.
-/
import Derived.Test.YtkjkoejnicbieaaGreatAm12
namespace Go.Proofs.YtkjkoejnicbieaaGreat.AM
open Go Go.RowKit

/-- The cells of what is appended, and how many elements. -/
def srcA (hp : Tr AObj) (size : Nat) (x : Value) : Option (Nat × List Value) :=
  match x with
  | .slice none 0 _ => some (0, [])
  | .slice (some _) 0 _ => some (0, [])
  | .slice (some ⟨b, o, none⟩) (n + 1) _ => match ldCells hp b o ((n + 1) * size) with
    | some vs => some (n + 1, vs)
    | none => none
  | .string s => bif Nat.beq size 1 then some (s.size, s.data.toList.map fun b => .int .u8 b.toNat) else none
  | _ => none

/-- The source's cells, in whatever world has this memory. -/
def Src (P : Program) (w : World) (size : Nat) (x : Value) (n : Nat) (vs : List Value) : Prop :=
  (∀ w2 : World, w2.heap = w.heap → (Builtin.lenOf x).run P w2 = .ok n w2 ∧ (Builtin.firstCells size n x).run P w2 = .ok vs.toArray w2) ∧ vs.length = n * size

theorem cell?_heap {w w2 : World} (h : w2.heap = w.heap) (a : Addr) : w2.cell? a = w.cell? a := by simp [World.cell?, h]

theorem srcA_sound {P : Program} {φ : Ren} {hp : Tr AObj} {w : World} (hw : WRel φ hp w) {size : Nat} {x x' : Value} (hx : VRel φ x x') {n : Nat} {vs : List Value} (h : srcA hp size x = some (n, vs)) :
    ∃ vs', Src P w size x' n vs' ∧ LRel φ vs vs' := by
  unfold srcA at h
  split at h
  · cases h; cases hx; exact ⟨[], ⟨fun w2 _ => ⟨by simp [Builtin.lenOf], by simp [Builtin.firstCells]⟩, by simp⟩, .nil⟩
  · cases h
    cases hx <;> exact ⟨[], ⟨fun w2 _ => ⟨by simp [Builtin.lenOf], by simp [Builtin.firstCells, loadCells, loadCellsFrom]⟩, by simp⟩, .nil⟩
  · rename_i b o m c
    split at h
    · rename_i us hl
      cases h
      have hul := (ldCells_get hl).1
      cases hx with
      | @slice _ _ _ _ l hlo hc =>
        obtain ⟨vs', g1, g2, g3⟩ := ldCells_sound hw hl hlo
        exact ⟨vs', ⟨fun w2 he => ⟨by simp [Builtin.lenOf], run_firstCells_some w2 size _ _ _ _ vs' g1 (fun j v hv => (cell?_heap he _).trans (g2 j v hv))⟩, g1⟩, by simpa using g3.lrel⟩
      | @sopen _ _ _ x c2 l hlo hlen hxo hfin hexact =>
        obtain ⟨vs', g1, g2, g3⟩ := ldCells_sound hw hl hlo
        rw [(hexact (by omega)).1]
        exact ⟨vs', ⟨fun w2 he => ⟨by simp [Builtin.lenOf], run_firstCells_some w2 size _ _ _ _ vs' g1 (fun j v hv => (cell?_heap he _).trans (g2 j v hv))⟩, g1⟩, by simpa using g3.lrel⟩
    · cases h
  · rename_i s
    cases hs : Nat.beq size 1 with
    | false => simp [hs] at h
    | true =>
      simp only [hs, cond_true, Option.some.injEq, Prod.mk.injEq] at h
      obtain ⟨rfl, rfl⟩ := h
      have := Nat.eq_of_beq_eq_true hs
      subst this
      cases hx
      refine ⟨s.data.toList.map fun b => .int .u8 b.toNat, ⟨fun w2 _ => ⟨by simp [Builtin.lenOf], ?_⟩, by simp⟩, ?_⟩
      · simp only [Builtin.firstCells, Sem.run_pure]
        congr 1
        apply Array.ext'
        have : s.extract 0 s.size = s := by
          apply ByteArray.ext
          rw [ByteArray.data_extract]
          apply Array.ext'
          rw [Array.toList_extract]
          simp only [List.extract, Nat.sub_zero, List.drop_zero]
          exact List.take_of_length_le (by rw [Array.length_toList]; exact Nat.le_refl _)
        rw [this]; simp
      · apply All2.of_get? rfl
        intro i a b ha hb
        rw [ha] at hb
        cases hb
        rw [List.getElem?_map] at ha
        cases hg : s.data.toList[i]? with
        | none => rw [hg] at ha; cases ha
        | some u => rw [hg] at ha; cases ha; exact .int _ _
  · cases h


theorem Src.len {P : Program} {w : World} {size : Nat} {x : Value} {n : Nat} {vs : List Value} (h : Src P w size x n vs) (w2 : World) (he : w2.heap = w.heap) : (Builtin.lenOf x).run P w2 = .ok n w2 := (h.1 w2 he).1

/-- append, where there is room. -/
theorem run_append_in {P : Program} {w w' : World} {t u ty e : TypeId} {du : TypeDesc} {size : Nat} (ht : P.underlying t = some (.slice e)) (hu : P.underlying u = some du) (hdu : ∀ k, du ≠ .int k) (hs : szOf P e = some size)
    {base : Option Addr} {sLen sCap n : Nat} {x : Value} {vs : List Value} (hsrc : Src P w size x n vs) (hroom : sLen + n ≤ sCap)
    (hst : (match base with | some a => storeCells (a.add (sLen * size)) vs | none => pure () : Sem Unit).run P w = .ok () w') :
    (Builtin.append_ #[t, u] ty #[.slice base sLen sCap, x]).run P w = .ok (.slice base (sLen + n) sCap) w' := by
  have h1 := (hsrc.1 w rfl).1
  have h2 := (hsrc.1 w rfl).2
  unfold Builtin.append_
  cases base with
  | none =>
    simp only at hst
    have hw : w' = w := by simp at hst; exact hst.symm
    subst hw
    simp [run_underlying ht, run_underlying hu, run_sizeOf hs, h1, h2, hroom]
  | some a =>
    simp only at hst
    simp [run_underlying ht, run_underlying hu, run_sizeOf hs, h1, h2, hroom, hst]

/-- append, where there is none. -/
theorem run_append_more {P : Program} {w : World} {t u ty e : TypeId} {du : TypeDesc} {i : TypeInfo} {z : Value} (ht : P.underlying t = some (.slice e)) (hu : P.underlying u = some du) (hdu : ∀ k, du ≠ .int k) (hi : P.info? e = some i) (hz : i.zero = some z)
    {base : Option Addr} {sLen sCap n : Nat} {x : Value} {vs olds : List Value} (hsrc : Src P w i.size x n vs) (hold : Src P w i.size (.slice base sLen sCap) sLen olds) (hroom : sCap < sLen + n) (hfit : (sLen + n) * i.bytes ≤ 140737488355328) (h63 : sLen + n ≤ 140737488355328) :
    (Builtin.append_ #[t, u] ty #[.slice base sLen sCap, x]).run P w =
      .ok (.slice (some ⟨w.heap.size, 0, none⟩) (sLen + n) (grownCap w (sLen + n) sCap e)) (w.drew.alloc (.cells (olds ++ vs ++ (Builtin.zeroCells z.cells (grownCap w (sLen + n) sCap e - (sLen + n))).toList).toArray e)) := by
  have h1 := (hsrc.1 w rfl).1
  have h2 := (hsrc.1 w.drew rfl).2
  have h3 := (hold.1 w.drew rfl).2
  have hn : ¬ (sLen + n ≤ sCap) := by omega
  have h63' : ¬ (9223372036854775807 < ((sLen : Int) + (n : Int))) := by omega
  have h48 := growslice_fits hroom hfit
  have h48' : ¬ (281474976710656 < Builtin.nextslicecap (sLen + n) sCap * i.bytes) := by omega
  have hso : szOf P e = some i.size := by simp [szOf, hi]
  have hzo : zeroOf P e = some z := by simp [zeroOf, hi, hz]
  have hti : ∀ w2 : World, (typeInfo e).run P w2 = .ok i w2 := fun w2 => by simp [typeInfo, hi]
  unfold Builtin.append_
  simp [run_underlying ht, run_underlying hu, run_sizeOf hso, run_zeroValue hzo, hti, h1, hn, h63', h48', Question.forced, h2, h3, newRow, grownCap]
  congr 2
  apply Array.ext'
  simp

end Go.Proofs.YtkjkoejnicbieaaGreat.AM

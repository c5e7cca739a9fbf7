/-
  The message's data: rows of bytes that grow; the library's Builder.
-/
import Derived.Test.YtkjkoejnicbieaaGreatAmD1
import Derived.Test.YtkjkoejnicbieaaGreatAmF1
namespace Go.Proofs.YtkjkoejnicbieaaGreat.AM
open Go Go.RowKit

/-! ### Rows of bytes -/
def bv (l : List UInt8) : List Value := l.map fun b => .int .u8 (b.toNat : Int)
theorem bv_len (l : List UInt8) : (bv l).length = l.length := by simp [bv]
theorem bv_app (l k : List UInt8) : bv (l ++ k) = bv l ++ bv k := by simp [bv]
theorem bv_one (l : List UInt8) : allOne (bv l) = true := by
  induction l with
  | nil => rfl
  | cons b l ih => simp only [bv, List.map_cons, allOne, Value.oneCell', cond_true]; exact ih
theorem bytesOf_bv : ∀ l : List UInt8, bytesOf (bv l) = some l := by
  intro l
  induction l with
  | nil => rfl
  | cons b l ih =>
    have : byteOf (.int .u8 (b.toNat : Int)) = some b := by
      have h : Nat.blt b.toNat 256 = true := by rw [Nat.blt_eq]; exact b.toNat_lt
      show (bif Nat.blt b.toNat 256 then some (UInt8.ofNat b.toNat) else none) = some b
      rw [h]; simp
    simp only [bv, List.map_cons, bytesOf, this]
    have ih' : bytesOf (List.map (fun b => Value.int .u8 (b.toNat : Int)) l) = some l := ih
    rw [ih']

def OwnB (hp : Tr AObj) (nx : Nat) (ob : Option Nat) (l : List UInt8) : Prop := Own hp nx 5 1 ob l.length (bv l)

/-- What an append leaves alone. -/
structure Gr (hp : Tr AObj) (nx : Nat) (ob : Option Nat) (hp' : Tr AObj) (nx' : Nat) (ob' : Option Nat) : Prop where
  le : nx ≤ nx'
  fr : Fr hp nx → Fr hp' nx'
  frame : ∀ i, i < nx → ob ≠ some i → hp'.get i = hp.get i
  ob : ∀ b, ob' = some b → ob = some b ∨ nx ≤ b

theorem Gr.refl (hp : Tr AObj) (nx : Nat) (ob : Option Nat) : Gr hp nx ob hp nx ob := ⟨Nat.le_refl _, id, fun _ _ _ => rfl, fun _ h => .inl h⟩
theorem Gr.trans {h1 h2 h3 : Tr AObj} {n1 n2 n3 : Nat} {o1 o2 o3 : Option Nat} (a : Gr h1 n1 o1 h2 n2 o2) (b : Gr h2 n2 o2 h3 n3 o3) : Gr h1 n1 o1 h3 n3 o3 := by
  refine ⟨Nat.le_trans a.le b.le, fun h => b.fr (a.fr h), fun i hi ho => ?_, fun x hx => ?_⟩
  · rw [b.frame i (Nat.lt_of_lt_of_le hi a.le) fun h => ?_, a.frame i hi ho]
    rcases a.ob i h with h | h
    · exact ho h
    · omega
  · rcases b.ob x hx with h | h
    · rcases a.ob x h with h | h
      · exact .inl h
      · exact .inr h
    · exact .inr (Nat.le_trans a.le h)

theorem info5 : (Tryz.prog.info? 5).map (fun i => (i.zero, i.size, i.bytes)) = some (some (.int .u8 0), 1, 1) := by kernel_rfl
theorem info9 : (Tryz.prog.info? 9).map (fun i => (i.zero, i.size, i.bytes)) = some (some (.string ⟨#[]⟩), 1, 16) := by kernel_rfl
theorem info28 : (Tryz.prog.info? 28).map (fun i => (i.zero, i.size, i.bytes)) = some (some (.slice none 0 0), 1, 24) := by kernel_rfl
theorem info31 : (Tryz.prog.info? 31).map (fun i => (i.zero, i.size, i.bytes)) = some (some (.agg #[.string ⟨#[]⟩, .slice none 0 0]), 2, 40) := by kernel_rfl

theorem info_of {P : Program} {t : Nat} {z : Value} {n b : Nat} (h : (P.info? t).map (fun i => (i.zero, i.size, i.bytes)) = some (some z, n, b)) : ∃ i, P.info? t = some i ∧ i.zero = some z ∧ i.size = n ∧ i.bytes = b := by
  cases hi : P.info? t with
  | none => rw [hi] at h; cases h
  | some i =>
    rw [hi] at h
    simp only [Option.map_some, Option.some.injEq, Prod.mk.injEq] at h
    exact ⟨i, rfl, h.1, h.2.1, h.2.2⟩

theorem unO_fr {hp : Tr AObj} {nx : Nat} {ob : Option Nat} (h : Fr hp nx) : Fr (unO hp ob) nx := by
  cases ob with
  | none => exact h
  | some b =>
    intro i o e
    simp only [unO, Tr.get_set] at e
    split at e
    · cases e
    · exact h i o e

theorem Own.keep {hp hp' : Tr AObj} {nx nx' e sz : Nat} {ob : Option Nat} {n : Nat} {cs : List Value} (h : Own hp nx e sz ob n cs) (hk : ∀ b, ob = some b → hp'.get b = hp.get b) (hn : nx ≤ nx') : Own hp' nx' e sz ob n cs := by
  obtain ⟨h1, h2⟩ := h
  refine ⟨h1, ?_⟩
  cases ob with
  | none => exact h2
  | some b => exact ⟨h2.1, Nat.lt_of_lt_of_le h2.2.1 hn, by rw [hk b rfl]; exact h2.2.2⟩

theorem Gr.of_app {hp : Tr AObj} {nx : Nat} {ob : Option Nat} (x : AObj) : Gr hp nx ob ((unO hp ob).set nx (some x)) (nx + 1) (some nx) := by
  refine ⟨Nat.le_succ _, fun h => (unO_fr h).new x, fun i hi ho => Own.get_other (by omega) ho, fun b hb => ?_⟩
  cases hb; exact .inr (Nat.le_refl _)

/-- A string's bytes behind a row of bytes. -/
theorem appStr {hp : Tr AObj} {nx : Nat} {ob : Option Nat} {l : List UInt8} (ho : OwnB hp nx ob l) (s : ByteArray) (hb : l.length + s.size ≤ 140737488355328) :
    ∃ ob' hp' nx', appA Tryz.prog hp nx 34 9 (ownV ob l.length) (.string s) = some ⟨some (ownV ob' (l ++ s.data.toList).length), hp', nx'⟩ ∧ OwnB hp' nx' ob' (l ++ s.data.toList) ∧ Gr hp nx ob hp' nx' ob' := by
  have hsl : s.data.toList.length = s.size := by rw [Array.length_toList]; rfl
  obtain ⟨i, hi, hz, hsz, hbt⟩ := info_of info5
  by_cases h0 : s.size = 0
  · refine ⟨ob, hp, nx, ?_, ?_, Gr.refl _ _ _⟩
    · have hl : (l ++ s.data.toList).length = l.length := by rw [List.length_append, hsl, h0]; rfl
      rw [hl]
      have hsrc : srcA hp i.size (.string s) = some (s.size, s.data.toList.map fun b => .int .u8 b.toNat) := by
        unfold srcA; rw [hsz]; rfl
      have c1 : (Nat.blt 0 i.size && Nat.beq (Value.int .u8 0).cells.size i.size && cst 8 (.int .u8 0)) = true := by rw [hsz]; rfl
      unfold appA
      simp only [un34, un9, hi, hz, hsrc, c1, cond_true]
      have hk0 : Nat.beq s.size 0 = true := by rw [h0]; rfl
      cases ob with
      | none =>
        have := ho.2
        simp only at this
        rw [this]
        simp only [ownV, hk0, cond_true]
      | some b =>
        have hlt : Nat.ble l.length OPEN = true := by rw [Nat.ble_eq]; unfold OPEN; omega
        simp only [ownV, hk0, cond_true, hlt]
    · have : s.data.toList = [] := List.eq_nil_of_length_eq_zero (by omega)
      rw [this, List.append_nil]; exact ho
  · obtain ⟨g1, g2⟩ := own_app (P := Tryz.prog) (t := 34) (u := 9) un34 un9 (fun k h => by cases h) hi hz hsz (by decide) rfl rfl ho (x := .string s) (k := s.size) (vs := bv s.data.toList)
      (by unfold srcA; rfl) (by omega) (by rw [bv_len, hsl]; omega) (bv_one _) (by rw [hbt]; omega) hb
    refine ⟨some nx, _, nx + 1, ?_, ?_, Gr.of_app (.cells (bv l ++ bv s.data.toList) 5 1 0 false true)⟩
    · rw [g1, List.length_append, hsl]
    · unfold OwnB
      rw [List.length_append, hsl, bv_app]
      exact g2

theorem bs34 (nx : Nat) (c : Int) : buildSliceA Tryz.prog nx 34 1 [(0, .int .u8 c)] = some (.slice (some ⟨nx, 0, none⟩) 1 1, .cells [.int .u8 c] 5 1 0 false true) := by kernel_rfl

/-- A byte behind a row of bytes (it lies in a row of its own ahead of that). -/
theorem appByte {hp : Tr AObj} {nx : Nat} {ob : Option Nat} {l : List UInt8} (ho : OwnB hp nx ob l) (c : UInt8) (hb : l.length + 1 ≤ 140737488355328) :
    ∃ ob' hp' nx', appA Tryz.prog (hp.set nx (some (.cells [.int .u8 (c.toNat : Int)] 5 1 0 false true))) (nx + 1) 34 34 (ownV ob l.length) (.slice (some ⟨nx, 0, none⟩) 1 1) = some ⟨some (ownV ob' (l ++ [c]).length), hp', nx'⟩ ∧ OwnB hp' nx' ob' (l ++ [c]) ∧ Gr hp nx ob hp' nx' ob' := by
  obtain ⟨i, hi, hz, hsz, hbt⟩ := info_of info5
  have hk : ∀ b, ob = some b → b < nx := fun b e => by subst e; exact ho.2.2.1
  have ho1 : Own (hp.set nx (some (.cells [.int .u8 (c.toNat : Int)] 5 1 0 false true))) (nx + 1) 5 1 ob l.length (bv l) :=
    Own.keep ho (fun b e => Tr.get_set_ne _ _ (by have := hk b e; omega)) (Nat.le_succ _)
  obtain ⟨g1, g2⟩ := own_app (P := Tryz.prog) (t := 34) (u := 34) un34 un34 (fun k h => by cases h) hi hz hsz (by decide) rfl rfl ho1 (x := .slice (some ⟨nx, 0, none⟩) 1 1) (k := 1) (vs := bv [c])
      (by unfold srcA ldCells; simp only [Tr.get_set_same]; rfl) (by decide) rfl (bv_one _) (by rw [hbt]; omega) hb
  refine ⟨some (nx + 1), (unO (hp.set nx (some (.cells [.int .u8 (c.toNat : Int)] 5 1 0 false true))) ob).set (nx + 1) (some (.cells (bv l ++ bv [c]) 5 1 0 false true)), nx + 2, ?_, ?_, ?_⟩
  · rw [g1, List.length_append]; rfl
  · unfold OwnB
    rw [List.length_append, bv_app]
    exact g2
  · have a := Gr.of_app (hp := hp.set nx (some (.cells [.int .u8 (c.toNat : Int)] 5 1 0 false true))) (nx := nx + 1) (ob := ob) (.cells (bv l ++ bv [c]) 5 1 0 false true)
    refine ⟨by omega, fun h => a.fr (h.new _), fun j hj hob => ?_, fun b hb => ?_⟩
    · rw [a.frame j (by omega) hob, Tr.get_set_ne _ _ (by omega)]
    · cases hb; exact .inr (Nat.le_succ _)

theorem cv5_21 (hp : Tr AObj) (c : UInt8) : convA Tryz.prog hp 5 21 (.int .u8 (c.toNat : Int)) = some (.int .i32 (c.toNat : Int)) := by
  have : IntKind.i32.wrap (c.toNat : Int) = c.toNat := by
    have := c.toNat_lt
    simp only [IntKind.wrap]
    simp [IntKind.bits, IntKind.signed]
    omega
  simp only [convA, un5, un21, this]

/-! ### A row of bytes as a string -/
theorem conv34 {hp : Tr AObj} {nx : Nat} {ob : Option Nat} {l : List UInt8} (ho : OwnB hp nx ob l) : convA Tryz.prog hp 34 9 (ownV ob l.length) = some (.string ⟨l.toArray⟩) := by
  obtain ⟨hlen, hob⟩ := ho
  cases ob with
  | none =>
    simp only at hob
    have : l = [] := List.eq_nil_of_length_eq_zero hob
    subst this
    simp only [ownV, convA, un34, un9, un5, sliceStr, List.length_nil]
  | some b =>
    simp only at hob
    obtain ⟨hpos, _, hg⟩ := hob
    simp only [ownV, convA, un34, un9, un5]
    obtain ⟨m, hm⟩ : ∃ m, l.length = m + 1 := ⟨l.length - 1, by omega⟩
    rw [hm]
    have hl : ldCells hp b 0 (m + 1) = some (bv l) := by
      unfold ldCells
      rw [hg]
      have : Nat.ble (0 + (m + 1)) (bv l).length = true := by rw [Nat.ble_eq, bv_len]; omega
      simp only [this, cond_true, List.drop_zero]
      rw [List.take_of_length_le (by rw [bv_len]; omega)]
    simp only [sliceStr, hl, bytesOf_bv]
end Go.Proofs.YtkjkoejnicbieaaGreat.AM

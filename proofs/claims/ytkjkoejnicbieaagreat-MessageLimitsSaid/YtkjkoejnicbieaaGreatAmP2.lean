/-
  The message's functions: is a byte one of the signs? ('strings.ContainsRune' over a constant text, run to the end by the machine for each byte).
-/
import Derived.Test.YtkjkoejnicbieaaGreatAmF1
import Derived.Test.YtkjkoejnicbieaaGreatAmW4
namespace Go.Proofs.YtkjkoejnicbieaaGreat.AM
open Go Go.RowKit

noncomputable def runM (f : FuncId) (l : List Value) : Option (List Out) := runB (Tab.fast Tryz.prog) 0 100000 xf7 60 f l .nil 0

def sign3 (c : Nat) : Bool := Nat.beq c 43 || Nat.beq c 58 || Nat.beq c 39
def sign4 (c : Nat) : Bool := Nat.beq c 43 || Nat.beq c 58 || Nat.beq c 39 || Nat.beq c 63

noncomputable def crune (s : ByteArray) (p : Nat → Bool) : Nat → Bool
  | 0 => true
  | n + 1 => crune s p n && oneV (runM 59 [.string s, .int .i32 (Int.ofNat n)]) (valEq 8 (.bool (p n)))

theorem crune_at {s : ByteArray} {p : Nat → Bool} : ∀ {n : Nat}, crune s p n = true → ∀ c, c < n → oneV (runM 59 [.string s, .int .i32 (Int.ofNat c)]) (valEq 8 (.bool (p c))) = true := by
  intro n
  induction n with
  | zero => intro _ c h; omega
  | succ n ih =>
    intro h c hc
    simp only [crune, Bool.and_eq_true] at h
    by_cases e : c = n
    · rw [e]; exact h.2
    · exact ih h.1 c (by omega)

set_option maxRecDepth 100000 in
theorem crune3 : crune ⟨#[43, 58, 39]⟩ sign3 256 = true := by kernel_rfl
set_option maxRecDepth 100000 in
theorem crune4 : crune ⟨#[43, 58, 39, 63]⟩ sign4 256 = true := by kernel_rfl

theorem runM_sound : CSound Tryz.prog 0 (runB (Tab.fast Tryz.prog) 0 100000 xf7 60) := runB_sound mixed7 named7 xf7_sound 60

theorem byte_lt (c : UInt8) : c.toNat < 256 := c.toNat_lt

theorem crune3_c {hp : Tr AObj} {nx : Nat} {c : UInt8} {b : Bool} (hb : sign3 c.toNat = b) :
    ACall Tryz.prog 0 59 [.string ⟨#[43, 58, 39]⟩, .int .i32 c.toNat] hp nx (fun v hp' nx' => v = .bool b ∧ hp' = hp ∧ nx' = nx) := by
  subst hb
  exact acall_closed runM_sound (crune_at crune3 c.toNat (byte_lt c)) rfl rfl hp nx
theorem crune4_c {hp : Tr AObj} {nx : Nat} {c : UInt8} {b : Bool} (hb : sign4 c.toNat = b) :
    ACall Tryz.prog 0 59 [.string ⟨#[43, 58, 39, 63]⟩, .int .i32 c.toNat] hp nx (fun v hp' nx' => v = .bool b ∧ hp' = hp ∧ nx' = nx) := by
  subst hb
  exact acall_closed runM_sound (crune_at crune4 c.toNat (byte_lt c)) rfl rfl hp nx
end Go.Proofs.YtkjkoejnicbieaaGreat.AM

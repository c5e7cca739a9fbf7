/-
  The message's replacer: what the machine makes of it, as numbers and rows, and where it can lie.
-/
import Derived.Test.YtkjkoejnicbieaaGreatAmW5
import Derived.Test.YtkjkoejnicbieaaGreatAmF1
import Derived.Test.YtkjkoejnicbieaaGreatAmD1
namespace Go.Proofs.YtkjkoejnicbieaaGreat.AM
open Go Go.RowKit

def ho (o : Option (List Out)) : Tr AObj := match o with
  | some (⟨_, h, _⟩ :: _) => h
  | _ => .nil
def no (o : Option (List Out)) : Nat := match o with
  | some (⟨_, _, n⟩ :: _) => n
  | _ => 0
def vo (o : Option (List Out)) : Value := match o with
  | some (⟨some v, _, _⟩ :: _) => v
  | _ => .nilIface
def isOne (o : Option (List Out)) : Bool := match o with
  | some [⟨some _, _, _⟩] => true
  | _ => false
theorem isOne_eq {o : Option (List Out)} (h : isOne o = true) : o = some [⟨some (vo o), ho o, no o⟩] := by
  unfold isOne at h
  split at h
  · rfl
  · cases h

def sameN (a b : Nat) : Bool := Nat.beq a b
theorem sameN_eq {a b : Nat} (h : sameN a b = true) : a = b := Nat.eq_of_beq_eq_true h

def doArgs (r : Nat) : List Value := [.pointer (some ⟨r, 0, none⟩), .func (.func 43) #[.pointer (some ⟨r, 0, none⟩)] #[]]
/-- Made; used once; used again. -/
noncomputable def run17 : Option (List Out) := runB fastT 0 100000 xf7 60 17 [] .nil 0
noncomputable def H2 : Tr AObj := ho run17
noncomputable def runDo : Option (List Out) := runB fastT 0 100000 xf7 60 42 (doArgs 2) H2 3
noncomputable def H3 : Tr AObj := ho runDo
noncomputable def runDo2 : Option (List Out) := runB fastT 0 100000 xf7 60 42 (doArgs 2) H3 17

def isPtr (r : Nat) (v : Value) : Bool := valEq 8 v (.pointer (some ⟨r, 0, none⟩))

set_option maxRecDepth 100000 in
theorem run17_ok : (isOne run17 && sameN (no run17) 3 && valEq 8 (vo run17) (.pointer (some ⟨2, 0, none⟩)) && okRun 0 [] .nil 3 H2 (vo run17)) = true := by kernel_rfl
set_option maxRecDepth 100000 in
theorem runDo_ok : (isOne runDo && sameN (no runDo) 17 && okRun 3 (doArgs 2) H2 17 H3 (vo runDo)) = true := by kernel_rfl
set_option maxRecDepth 100000 in
theorem runDo2_ok : (isOne runDo2 && sameN (no runDo2) 17 && okRun 17 (doArgs 2) H3 17 H3 (vo runDo2) && trEq objEq (ho runDo2) H3) = true := by kernel_rfl
end Go.Proofs.YtkjkoejnicbieaaGreat.AM

/-
  The message's laws: the program's functions that have no text, and its tables.
-/
import Derived.Test.YtkjkoejnicbieaaGreatAm24
import Derived.Test.YtkjkoejnicbieaaGreatProg
import Derived.KernelRfl
namespace Go.Proofs.YtkjkoejnicbieaaGreat.AM
open Go Go.RowKit

noncomputable def fastT : Tab := Tab.fast Tryz.prog

/-- The functions of this program that have no text of their own. -/
def kinds7 : FuncId → Option XK
  | 54 => some .same
  | 104 => some .indexByte
  | 66 => some (.load .u32)
  | 77 => some (.store .u32)
  | 85 => some .mark0
  | 87 => some .mark0
  | 86 => some (.cas .i32)
  | 88 => some .mark1
  | 90 => some .mark1
  | 91 => some (.add .i32)
  | _ => none

theorem mixed7 : Tryz.prog.follows .mixedOrders = true := by kernel_rfl

theorem names7 : Tryz.prog.funcs.toList.all (fun fn => !(fn.name == "runtime.NumGoroutine")) = true := by kernel_rfl

theorem named7 (f : Nat) (fn : Func) (h : Tryz.prog.funcs[f]? = some fn) : (fn.name == "runtime.NumGoroutine") = false := by
  have := List.all_eq_true.1 names7 fn (by simpa using Array.mem_of_getElem? h)
  simpa using this

theorem x54 : XOk Tryz.prog 54 .same := ⟨Tryz.prog.funcs.getD 54 default, by kernel_rfl, by kernel_rfl, by kernel_rfl, by kernel_rfl, by show Extern.find _ = some _; kernel_rfl⟩
theorem x104 : XOk Tryz.prog 104 .indexByte := ⟨Tryz.prog.funcs.getD 104 default, by kernel_rfl, by kernel_rfl, by kernel_rfl, by kernel_rfl, by show Extern.find _ = some _; kernel_rfl⟩
theorem x66 : XOk Tryz.prog 66 (.load .u32) := ⟨Tryz.prog.funcs.getD 66 default, by kernel_rfl, by kernel_rfl, by kernel_rfl, by kernel_rfl, by show Extern.find _ = some _; kernel_rfl⟩
theorem x77 : XOk Tryz.prog 77 (.store .u32) := ⟨Tryz.prog.funcs.getD 77 default, by kernel_rfl, by kernel_rfl, by kernel_rfl, by kernel_rfl, by show Extern.find _ = some _; kernel_rfl⟩
theorem x85 : XOk Tryz.prog 85 .mark0 := ⟨Tryz.prog.funcs.getD 85 default, by kernel_rfl, by kernel_rfl, by kernel_rfl, by kernel_rfl, .disable, by kernel_rfl⟩
theorem x87 : XOk Tryz.prog 87 .mark0 := ⟨Tryz.prog.funcs.getD 87 default, by kernel_rfl, by kernel_rfl, by kernel_rfl, by kernel_rfl, .enable, by kernel_rfl⟩
theorem x86 : XOk Tryz.prog 86 (.cas .i32) := ⟨Tryz.prog.funcs.getD 86 default, by kernel_rfl, by kernel_rfl, by kernel_rfl, by kernel_rfl, by show Extern.find _ = some _; kernel_rfl⟩
theorem x88 : XOk Tryz.prog 88 .mark1 := ⟨Tryz.prog.funcs.getD 88 default, by kernel_rfl, by kernel_rfl, by kernel_rfl, by kernel_rfl, .acquire, by kernel_rfl⟩
theorem x90 : XOk Tryz.prog 90 .mark1 := ⟨Tryz.prog.funcs.getD 90 default, by kernel_rfl, by kernel_rfl, by kernel_rfl, by kernel_rfl, .releaseMerge, by kernel_rfl⟩
theorem x91 : XOk Tryz.prog 91 (.add .i32) := ⟨Tryz.prog.funcs.getD 91 default, by kernel_rfl, by kernel_rfl, by kernel_rfl, by kernel_rfl, by show Extern.find _ = some _; kernel_rfl⟩

theorem kinds7_ok (f : FuncId) (x : XK) (h : kinds7 f = some x) : XOk Tryz.prog f x := by
  unfold kinds7 at h
  split at h
  · cases h; exact x54
  · cases h; exact x104
  · cases h; exact x66
  · cases h; exact x77
  · cases h; exact x85
  · cases h; exact x87
  · cases h; exact x86
  · cases h; exact x88
  · cases h; exact x90
  · cases h; exact x91
  · cases h

def xf7 : CF := xfK kinds7
theorem xf7_sound : CSound Tryz.prog 0 xf7 := xfK_sound kinds7_ok

end Go.Proofs.YtkjkoejnicbieaaGreat.AM

/-
  The message's functions: closed facts on the program's types.
-/
import Derived.Test.YtkjkoejnicbieaaGreatAmW3
import Derived.Test.YtkjkoejnicbieaaGreatAmV0
namespace Go.Proofs.YtkjkoejnicbieaaGreat.AM
open Go Go.RowKit
theorem ag3 : aggT Tryz.prog 3 = some false := by kernel_rfl
theorem sz3 : szOf Tryz.prog 3 = some 1 := by kernel_rfl
theorem un3 : Tryz.prog.underlying 3 = some (.int .i64) := by kernel_rfl
theorem ag4 : aggT Tryz.prog 4 = some false := by kernel_rfl
theorem sz4 : szOf Tryz.prog 4 = some 1 := by kernel_rfl
theorem ag5 : aggT Tryz.prog 5 = some false := by kernel_rfl
theorem sz5 : szOf Tryz.prog 5 = some 1 := by kernel_rfl
theorem un5 : Tryz.prog.underlying 5 = some (.int .u8) := by kernel_rfl
theorem ag9 : aggT Tryz.prog 9 = some false := by kernel_rfl
theorem sz9 : szOf Tryz.prog 9 = some 1 := by kernel_rfl
theorem un9 : Tryz.prog.underlying 9 = some .string := by kernel_rfl
theorem ag21 : aggT Tryz.prog 21 = some false := by kernel_rfl
theorem sz21 : szOf Tryz.prog 21 = some 1 := by kernel_rfl
theorem un21 : Tryz.prog.underlying 21 = some (.int .i32) := by kernel_rfl
theorem ag22 : aggT Tryz.prog 22 = some false := by kernel_rfl
theorem sz22 : szOf Tryz.prog 22 = some 1 := by kernel_rfl
theorem un22 : Tryz.prog.underlying 22 = some (.slice 31) := by kernel_rfl
theorem ag28 : aggT Tryz.prog 28 = some false := by kernel_rfl
theorem sz28 : szOf Tryz.prog 28 = some 1 := by kernel_rfl
theorem un28 : Tryz.prog.underlying 28 = some (.slice 9) := by kernel_rfl
theorem ag29 : aggT Tryz.prog 29 = some false := by kernel_rfl
theorem sz29 : szOf Tryz.prog 29 = some 1 := by kernel_rfl
theorem un29 : Tryz.prog.underlying 29 = some (.slice 28) := by kernel_rfl
theorem ag31 : aggT Tryz.prog 31 = some true := by kernel_rfl
theorem sz31 : szOf Tryz.prog 31 = some 2 := by kernel_rfl
theorem fa31_0 (b o : Nat) : fieldAddrA Tryz.prog 31 (.pointer (some ⟨b, o, none⟩)) 0 = some (.pointer (some ⟨b, o + 0, none⟩)) := by kernel_rfl
theorem fa31_1 (b o : Nat) : fieldAddrA Tryz.prog 31 (.pointer (some ⟨b, o, none⟩)) 1 = some (.pointer (some ⟨b, o + 1, none⟩)) := by kernel_rfl
theorem ag34 : aggT Tryz.prog 34 = some false := by kernel_rfl
theorem sz34 : szOf Tryz.prog 34 = some 1 := by kernel_rfl
theorem un34 : Tryz.prog.underlying 34 = some (.slice 5) := by kernel_rfl
theorem ag48 : aggT Tryz.prog 48 = some false := by kernel_rfl
theorem sz48 : szOf Tryz.prog 48 = some 1 := by kernel_rfl
theorem un48 : Tryz.prog.underlying 48 = some (.pointer 50) := by kernel_rfl
theorem ag50 : aggT Tryz.prog 50 = some true := by kernel_rfl
theorem sz50 : szOf Tryz.prog 50 = some 2 := by kernel_rfl
theorem fa50_0 (b o : Nat) : fieldAddrA Tryz.prog 50 (.pointer (some ⟨b, o, none⟩)) 0 = some (.pointer (some ⟨b, o + 0, none⟩)) := by kernel_rfl
theorem fa50_1 (b o : Nat) : fieldAddrA Tryz.prog 50 (.pointer (some ⟨b, o, none⟩)) 1 = some (.pointer (some ⟨b, o + 1, none⟩)) := by kernel_rfl
theorem ag67 : aggT Tryz.prog 67 = some true := by kernel_rfl
theorem sz67 : szOf Tryz.prog 67 = some 2 := by kernel_rfl
theorem fa67_0 (b o : Nat) : fieldAddrA Tryz.prog 67 (.pointer (some ⟨b, o, none⟩)) 0 = some (.pointer (some ⟨b, o + 0, none⟩)) := by kernel_rfl
theorem fa67_1 (b o : Nat) : fieldAddrA Tryz.prog 67 (.pointer (some ⟨b, o, none⟩)) 1 = some (.pointer (some ⟨b, o + 1, none⟩)) := by kernel_rfl
theorem ag126 : aggT Tryz.prog 126 = some false := by kernel_rfl
theorem sz126 : szOf Tryz.prog 126 = some 1 := by kernel_rfl
theorem ag100 : aggT Tryz.prog 100 = some false := by kernel_rfl
theorem sz100 : szOf Tryz.prog 100 = some 1 := by kernel_rfl
theorem un100 : Tryz.prog.underlying 100 = some (.pointer 5) := by kernel_rfl
theorem ag51 : aggT Tryz.prog 51 = some false := by kernel_rfl
theorem sz51 : szOf Tryz.prog 51 = some 1 := by kernel_rfl
theorem un51 : Tryz.prog.underlying 51 = some (.pointer 98) := by kernel_rfl
theorem ag98 : aggT Tryz.prog 98 = some true := by kernel_rfl
theorem sz98 : szOf Tryz.prog 98 = some 5 := by kernel_rfl
theorem fa98_0 (b o : Nat) : fieldAddrA Tryz.prog 98 (.pointer (some ⟨b, o, none⟩)) 0 = some (.pointer (some ⟨b, o + 0, none⟩)) := by kernel_rfl
theorem fa98_1 (b o : Nat) : fieldAddrA Tryz.prog 98 (.pointer (some ⟨b, o, none⟩)) 1 = some (.pointer (some ⟨b, o + 3, none⟩)) := by kernel_rfl
theorem fa98_2 (b o : Nat) : fieldAddrA Tryz.prog 98 (.pointer (some ⟨b, o, none⟩)) 2 = some (.pointer (some ⟨b, o + 4, none⟩)) := by kernel_rfl
theorem ag94 : aggT Tryz.prog 94 = some true := by kernel_rfl
theorem sz94 : szOf Tryz.prog 94 = some 3 := by kernel_rfl
theorem fa94_1 (b o : Nat) : fieldAddrA Tryz.prog 94 (.pointer (some ⟨b, o, none⟩)) 1 = some (.pointer (some ⟨b, o + 0, none⟩)) := by kernel_rfl
theorem fa94_2 (b o : Nat) : fieldAddrA Tryz.prog 94 (.pointer (some ⟨b, o, none⟩)) 2 = some (.pointer (some ⟨b, o + 1, none⟩)) := by kernel_rfl
theorem ag92 : aggT Tryz.prog 92 = some true := by kernel_rfl
theorem sz92 : szOf Tryz.prog 92 = some 2 := by kernel_rfl
theorem fa92_1 (b o : Nat) : fieldAddrA Tryz.prog 92 (.pointer (some ⟨b, o, none⟩)) 1 = some (.pointer (some ⟨b, o + 0, none⟩)) := by kernel_rfl
theorem ag90 : aggT Tryz.prog 90 = some true := by kernel_rfl
theorem sz90 : szOf Tryz.prog 90 = some 2 := by kernel_rfl
theorem fa90_0 (b o : Nat) : fieldAddrA Tryz.prog 90 (.pointer (some ⟨b, o, none⟩)) 0 = some (.pointer (some ⟨b, o + 0, none⟩)) := by kernel_rfl
theorem fa90_1 (b o : Nat) : fieldAddrA Tryz.prog 90 (.pointer (some ⟨b, o, none⟩)) 1 = some (.pointer (some ⟨b, o + 1, none⟩)) := by kernel_rfl
theorem ag88 : aggT Tryz.prog 88 = some true := by kernel_rfl
theorem sz88 : szOf Tryz.prog 88 = some 1 := by kernel_rfl
theorem fa88_1 (b o : Nat) : fieldAddrA Tryz.prog 88 (.pointer (some ⟨b, o, none⟩)) 1 = some (.pointer (some ⟨b, o + 0, none⟩)) := by kernel_rfl
theorem ag151 : aggT Tryz.prog 151 = some true := by kernel_rfl
theorem sz151 : szOf Tryz.prog 151 = some 257 := by kernel_rfl
theorem fa151_0 (b o : Nat) : fieldAddrA Tryz.prog 151 (.pointer (some ⟨b, o, none⟩)) 0 = some (.pointer (some ⟨b, o + 0, none⟩)) := by kernel_rfl
theorem fa151_1 (b o : Nat) : fieldAddrA Tryz.prog 151 (.pointer (some ⟨b, o, none⟩)) 1 = some (.pointer (some ⟨b, o + 256, none⟩)) := by kernel_rfl
theorem ag149 : aggT Tryz.prog 149 = some true := by kernel_rfl
theorem sz149 : szOf Tryz.prog 149 = some 256 := by kernel_rfl
theorem un149 : Tryz.prog.underlying 149 = some (.array 256 34) := by kernel_rfl
theorem ag152 : aggT Tryz.prog 152 = some false := by kernel_rfl
theorem sz152 : szOf Tryz.prog 152 = some 1 := by kernel_rfl
theorem un152 : Tryz.prog.underlying 152 = some (.pointer 151) := by kernel_rfl
theorem ze31 : zeroOf Tryz.prog 31 = some (.agg #[.string ⟨#[]⟩, .slice none 0 0]) := by kernel_rfl
theorem ze50 : zeroOf Tryz.prog 50 = some (.agg #[.pointer none, .slice none 0 0]) := by kernel_rfl
end Go.Proofs.YtkjkoejnicbieaaGreat.AM

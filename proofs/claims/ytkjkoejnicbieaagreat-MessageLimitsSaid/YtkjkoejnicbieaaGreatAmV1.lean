/-
  The message's laws: what 'alive' comes to, by the abstract machine.
-/
import Derived.Test.YtkjkoejnicbieaaGreatAmV0
namespace Go.Proofs.YtkjkoejnicbieaaGreat.AM
open Go Go.RowKit

def isTrue (o : Option (List Out)) : Bool :=
  match o with
  | some [⟨some (.bool true), _, _⟩] => true
  | _ => false

theorem isTrue_eq {o : Option (List Out)} (h : isTrue o = true) : ∃ hp nx, o = some [⟨some (.bool true), hp, nx⟩] := by
  unfold isTrue at h
  split at h
  · exact ⟨_, _, rfl⟩
  · cases h

set_option maxRecDepth 100000 in
theorem alive_run : isTrue (runB fastT 0 100000 xf7 60 8 [] .nil 0) = true := by kernel_rfl

theorem alive_calls (w : World) : Calls Tryz.prog 8 #[] w fun
    | .returned v, w' => v = .bool true ∧ w'.os = w.os ∧ w'.tape = w.tape ∧ w'.output = w.output ∧ w.heap.size ≤ w'.heap.size ∧ ∀ k, k < w.heap.size → w'.heap[k]? = w.heap[k]?
    | _, _ => False := by
  obtain ⟨hp, nx, he⟩ := isTrue_eq alive_run
  have hs := runB_sound (P := Tryz.prog) (G := 0) (fuel := 100000) mixed7 named7 xf7_sound 60
  rcases hs 8 [] .nil 0 _ he (fun _ => none) w #[] (fun g hg => absurd hg (Nat.not_lt_zero g)) .nil ⟨fun i o l h => by simp [Tr.get_nil] at h, fun i j oi oj li lj _ h => by simp [Tr.get_nil] at h⟩ (fun i hi => absurd rfl hi) with ⟨_, h2⟩ | ⟨v, w', h1, _⟩
  · refine h2.mono fun e w' he => ?_
    cases e with
    | returned v =>
      obtain ⟨r, hr, φ', v', hv, hx, _, _, hrel⟩ := he
      rw [List.mem_singleton.1 hr] at hv hx
      simp only [Option.some.injEq] at hv
      subst hv
      refine ⟨hrel.bool_eq, hx.os, hx.tape, hx.output, hx.size, fun k hk => hx.frame k hk ?_⟩
      rintro ⟨i, o, l, h1, _, h2, _⟩
      simp [Tr.get_nil] at h1
    | panicked c => exact he.elim
    | outgrown => exact he.elim
  · exfalso
    have : (callFunc 8 #[]).run Tryz.prog w = .ok (.enter 8 #[]) w := by
      have hb : (Tryz.prog.funcs.getD 8 default).body.isSome = true := by kernel_rfl
      obtain ⟨c, hc⟩ := Option.isSome_iff_exists.1 hb
      have hf : Tryz.prog.funcs[8]? = some (Tryz.prog.funcs.getD 8 default) := by kernel_rfl
      simp only [callFunc, Sem.run_bind, run_program, Result.andThen_ok, hf, named7 8 _ hf, hc]
      rfl
    rw [this] at h1
    cases h1
end Go.Proofs.YtkjkoejnicbieaaGreat.AM

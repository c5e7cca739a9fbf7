/-
  The message's laws, walked: what Print and the reference hand back is one.
-/
import Derived.Test.YtkjkoejnicbieaaGreatAmP13
import Derived.Test.YtkjkoejnicbieaaGreatAmV1
namespace Go.Proofs.YtkjkoejnicbieaaGreat.AM
open Go Go.RowKit

/-- The last part of every law: that the program is alive. -/
theorem alive_c (hp : Tr AObj) (nx : Nat) : ACall Tryz.prog 0 8 [] hp nx (fun v hp' nx' => v = .bool true ∧ hp' = hp ∧ nx' = nx) := by
  obtain ⟨h1, n1, he⟩ := isTrue_eq alive_run
  exact acall_closed runB7 (f := 8) (l := []) (v := .bool true) (by rw [he]; rfl) rfl rfl hp nx

theorem tT (s : ByteArray) : some (Value.bool (strEq s.data.toList s.data.toList)) = some (Value.bool true) := by
  have : strEq s.data.toList s.data.toList = true := by rw [← strEq_eq]; exact beq_self_eq_true _
  rw [this]

/-- What 'Print' hands back, in two. -/
theorem prV_two (m : List Seg) : ∃ (s : ByteArray) (e : Int), prV m = .tuple #[.string s, .int .i64 e] := by
  unfold prV
  split
  · exact ⟨_, 0, rfl⟩
  · exact ⟨_, 2, rfl⟩

set_option maxHeartbeats 1000000 in
theorem prints_c {hp : Tr AObj} {nx : Nat} {v : Value} {m : List Seg} (hm : RdMsg hp v m) (hfit : Fits m) (hf : Fr hp nx) :
    ACall Tryz.prog 0 3 [v] hp nx (fun v hp' nx' => v = .bool true ∧ hp' = hp ∧ nx' = nx) := by
  refine acall_fn named7 Tryz.func3 rfl rfl ?_
  show AW _ _ _ _ ⟨tms [(0, v)], hp, nx, []⟩ _
  refine aw_seq (aw_reg ?_)
  refine s_t (x_q (e_assign rfl) rfl ?_)
  refine s_nil ?_
  refine aw_seq (aw_seq (aw_reg ?_))
  refine s_t (x_q (e_move rfl) rfl ?_)
  refine s_t (x_call rfl rfl rfl (brief_c hm hfit) ?_)
  rintro _ h1 n1 ⟨b, rfl, e1, e2⟩
  subst e1 e2
  refine s_t (x_q (e_un rfl rfl) rfl ?_)
  refine s_nil ?_
  cases b with
  | false =>
    refine (aw_ifT rfl ?_)
    refine aw_seq (aw_reg ?_)
    refine s_t (x_pure rfl rfl rfl (alive_c _ _) ?_)
    refine s_t (x_q (e_assign rfl) rfl ?_)
    refine s_nil ?_
    exact aw_ret (fn_ret rfl ⟨rfl, rfl, rfl⟩)
  | true =>
  obtain ⟨s, e, hv⟩ := prV_two m
  have hp9 := print_c hm hfit hf
  have hp10 := rprint_c hm hfit hf
  rw [hv] at hp9 hp10
  refine (aw_ifF rfl (aw_skip ?_))
  refine aw_seq (aw_reg ?_)
  refine s_t (x_q (e_move rfl) rfl ?_)
  refine s_t (x_pure rfl rfl rfl (hp9) ?_)
  refine s_t (x_q (e_move rfl) rfl ?_)
  refine s_t (x_q (e_ext rfl rfl) rfl ?_)
  refine s_t (x_q (e_ext rfl rfl) rfl ?_)
  refine s_t (x_q (e_assign rfl) rfl ?_)
  refine s_t (x_q (e_assign rfl) rfl ?_)
  refine s_nil ?_
  refine aw_seq (aw_reg ?_)
  refine s_t (x_q (e_move rfl) rfl ?_)
  refine s_t (x_pure rfl rfl rfl (hp10) ?_)
  refine s_t (x_q (e_move rfl) rfl ?_)
  refine s_t (x_q (e_ext rfl rfl) rfl ?_)
  refine s_t (x_q (e_ext rfl rfl) rfl ?_)
  refine s_t (x_q (e_assign rfl) rfl ?_)
  refine s_t (x_q (e_assign rfl) rfl ?_)
  refine s_nil ?_
  refine aw_seq (aw_reg ?_)
  refine s_t (x_q (e_move rfl) rfl ?_)
  refine s_t (x_pure rfl rfl rfl (hp9) ?_)
  refine s_t (x_q (e_move rfl) rfl ?_)
  refine s_t (x_q (e_ext rfl rfl) rfl ?_)
  refine s_t (x_q (e_ext rfl rfl) rfl ?_)
  refine s_t (x_q (e_assign rfl) rfl ?_)
  refine s_t (x_q (e_assign rfl) rfl ?_)
  refine s_nil ?_
  refine aw_seq (aw_reg ?_)
  refine s_t (x_q (e_move rfl) rfl ?_)
  refine s_t (x_q (e_move rfl) rfl ?_)
  refine s_t (x_q (e_bin rfl rfl (tT s)) rfl ?_)
  refine s_t (x_q (e_move rfl) rfl ?_)
  refine s_g rfl (x_q (e_move rfl) rfl ?_)
  refine s_g rfl (x_q (e_move rfl) rfl ?_)
  refine s_g rfl (x_q (e_bin rfl rfl (eT rfl)) rfl ?_)
  refine s_t (x_q (e_pickT rfl rfl rfl) rfl ?_)
  refine s_t (x_q (e_move rfl) rfl ?_)
  refine s_g rfl (x_q (e_move rfl) rfl ?_)
  refine s_g rfl (x_q (e_move rfl) rfl ?_)
  refine s_g rfl (x_q (e_bin rfl rfl (tT s)) rfl ?_)
  refine s_t (x_q (e_pickT rfl rfl rfl) rfl ?_)
  refine s_t (x_q (e_move rfl) rfl ?_)
  refine s_g rfl (x_q (e_move rfl) rfl ?_)
  refine s_g rfl (x_q (e_move rfl) rfl ?_)
  refine s_g rfl (x_q (e_bin rfl rfl (eT rfl)) rfl ?_)
  refine s_t (x_q (e_pickT rfl rfl rfl) rfl ?_)
  refine s_t (x_q (e_move rfl) rfl ?_)
  refine s_g rfl (x_pure rfl rfl rfl (alive_c _ _) ?_)
  refine s_t (x_q (e_pickT rfl rfl rfl) rfl ?_)
  refine s_t (x_q (e_assign rfl) rfl ?_)
  refine s_nil ?_
  exact aw_ret (fn_ret rfl ⟨rfl, rfl, rfl⟩)
end Go.Proofs.YtkjkoejnicbieaaGreat.AM

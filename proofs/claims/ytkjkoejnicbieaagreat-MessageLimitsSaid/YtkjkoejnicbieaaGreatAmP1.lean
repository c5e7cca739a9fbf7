/-
  The message's functions, walked: the scanner's 'more'; 'upper'; 'tag'.
-/
import Derived.Test.YtkjkoejnicbieaaGreatAmF1
namespace Go.Proofs.YtkjkoejnicbieaaGreat.AM
open Go Go.RowKit

theorem more_c {hp : Tr AObj} {nx r k : Nat} {s : ByteArray} {e sz fz : Nat} {ro hd : Bool} (h : hp.get r = some (.cells [.string s, .int .i64 (k : Int)] e sz fz ro hd)) {b : Bool} (hb : decide ((k : Int) < s.size) = b) :
    ACall Tryz.prog 0 28 [.pointer (some ⟨r, 0, none⟩)] hp nx (fun v hp' nx' => v = .bool b ∧ hp' = hp ∧ nx' = nx) := by
  refine acall_fn named7 Tryz.func28 rfl rfl ?_
  show AW _ _ _ _ ⟨tms [(0, .pointer (some ⟨r, 0, none⟩))], hp, nx, []⟩ _
  refine aw_seq (aw_reg ?_)
  refine s_t (x_q (e_assign rfl) rfl ?_)
  refine s_nil ?_
  refine aw_seq (aw_any mixed7 [(0, true), (1, true), (2, true), (4, true), (5, true), (6, true), (3, true), (7, true), (8, true), (9, true), (10, true)] (by kernel_rfl) (by kernel_rfl) (by kernel_rfl) ?_)
  refine a_q rfl (e_move rfl) rfl ?_
  refine a_q rfl (e_nilP rfl) rfl ?_
  refine a_q rfl (e_fa rfl (fa67_1 _ _)) rfl ?_
  refine a_q rfl (e_move rfl) rfl ?_
  refine a_q rfl (e_nilP rfl) rfl ?_
  refine a_q rfl (e_fa rfl (fa67_0 _ _)) rfl ?_
  refine a_q rfl (e_load rfl (ld1 ag3 h rfl)) rfl ?_
  refine a_q rfl (e_load rfl (ld1 ag9 h rfl)) rfl ?_
  refine a_q rfl (e_len rfl (lenStr un9)) rfl ?_
  refine a_q rfl (e_bin rfl rfl rfl) rfl ?_
  refine a_q rfl (e_assign rfl) rfl ?_
  refine aw_ret (fn_ret rfl ⟨?_, rfl, rfl⟩)
  exact congrArg Value.bool hb

theorem upper_c {hp : Tr AObj} {nx : Nat} {c : UInt8} {b : Bool} (hb : (65 ≤ c.toNat && c.toNat ≤ 90) = b) :
    ACall Tryz.prog 0 35 [.int .u8 c.toNat] hp nx (fun v hp' nx' => v = .bool b ∧ hp' = hp ∧ nx' = nx) := by
  refine acall_fn named7 Tryz.func35 rfl rfl ?_
  show AW _ _ _ _ ⟨tms [(0, .int .u8 c.toNat)], hp, nx, []⟩ _
  cases hd : decide ((c.toNat : Int) ≥ 65) with
  | true =>
    refine aw_seq (aw_reg ?_)
    refine s_t (x_q (e_assign rfl) rfl ?_)
    refine s_nil ?_
    refine aw_seq (aw_reg ?_)
    refine s_t (x_q (e_move rfl) rfl ?_)
    refine s_t (x_q (e_bin rfl rfl (congrArg (fun b => some (Value.bool b)) hd)) rfl ?_)
    refine s_t (x_q (e_move rfl) rfl ?_)
    refine s_g rfl (x_q (e_move rfl) rfl ?_)
    refine s_g rfl (x_q (e_bin rfl rfl rfl) rfl ?_)
    refine s_t (x_q (e_pickT rfl rfl rfl) rfl ?_)
    refine s_t (x_q (e_assign rfl) rfl ?_)
    refine s_nil ?_
    refine aw_ret (fn_ret rfl ⟨congrArg Value.bool ?_, rfl, rfl⟩)
    rw [← hb]
    have : (65 ≤ c.toNat) := by simp at hd; omega
    simp [this]; omega
  | false =>
    refine aw_seq (aw_reg ?_)
    refine s_t (x_q (e_assign rfl) rfl ?_)
    refine s_nil ?_
    refine aw_seq (aw_reg ?_)
    refine s_t (x_q (e_move rfl) rfl ?_)
    refine s_t (x_q (e_bin rfl rfl (congrArg (fun b => some (Value.bool b)) hd)) rfl ?_)
    refine s_t (x_q (e_move rfl) rfl ?_)
    refine s_n rfl rfl ?_
    refine s_n rfl rfl ?_
    refine s_t (x_q (e_pickF rfl rfl rfl) rfl ?_)
    refine s_t (x_q (e_assign rfl) rfl ?_)
    refine s_nil ?_
    refine aw_ret (fn_ret rfl ⟨congrArg Value.bool ?_, rfl, rfl⟩)
    rw [← hb]
    simp at hd
    simp; omega

theorem bIs {a b : Bool} (h : a = b) : some (Value.bool a) = some (Value.bool b) := by rw [h]
theorem size_list (s : ByteArray) : s.data.toList.length = s.size := by rw [Array.length_toList]; rfl

def isUp (c : UInt8) : Bool := 65 ≤ c.toNat && c.toNat ≤ 90
def isTag (s : List UInt8) : Bool := (s.length == 2 || s.length == 3) && s.all isUp

theorem tag_c {hp : Tr AObj} {nx : Nat} {s : ByteArray} {b : Bool} (hb : isTag s.data.toList = b) :
    ACall Tryz.prog 0 18 [.string s] hp nx (fun v hp' nx' => v = .bool b ∧ hp' = hp ∧ nx' = nx) := by
  refine acall_fn named7 Tryz.func18 rfl rfl ?_
  show AW _ _ _ _ ⟨tms [(0, .string s)], hp, nx, []⟩ _
  have hsz := size_list s
  by_cases hlo : s.size < 2
  · refine aw_seq (aw_reg ?_)
    refine s_t (x_q (e_assign rfl) rfl ?_)
    refine s_nil ?_
    refine aw_seq (aw_seq (aw_reg ?_))
    refine s_t (x_q (e_move rfl) rfl ?_)
    refine s_t (x_q (e_len rfl (lenStr un9)) rfl ?_)
    refine s_t (x_q (e_bin rfl rfl (bIs (show decide ((s.size : Int) < 2) = true by rw [decide_eq_true_eq]; omega))) rfl ?_)
    refine s_t (x_q (e_move rfl) rfl ?_)
    refine s_n rfl rfl ?_
    refine s_n rfl rfl ?_
    refine s_n rfl rfl ?_
    refine s_t (x_q (e_pickT rfl rfl rfl) rfl ?_)
    refine s_nil ?_
    refine (aw_ifT rfl ?_)
    refine aw_seq (aw_reg ?_)
    refine s_t (x_q (e_assign rfl) rfl ?_)
    refine s_nil ?_
    refine aw_ret (fn_ret rfl ⟨congrArg Value.bool ?_, rfl, rfl⟩)
    rw [← hb]; unfold isTag; rw [hsz]
    have h1 : (s.size == 2) = false := by rw [beq_eq_false_iff_ne]; omega
    have h2 : (s.size == 3) = false := by rw [beq_eq_false_iff_ne]; omega
    rw [h1, h2]; rfl
  by_cases hhi : 3 < s.size
  · refine aw_seq (aw_reg ?_)
    refine s_t (x_q (e_assign rfl) rfl ?_)
    refine s_nil ?_
    refine aw_seq (aw_seq (aw_reg ?_))
    refine s_t (x_q (e_move rfl) rfl ?_)
    refine s_t (x_q (e_len rfl (lenStr un9)) rfl ?_)
    refine s_t (x_q (e_bin rfl rfl (bIs (show decide ((s.size : Int) < 2) = false by rw [decide_eq_false_iff_not]; omega))) rfl ?_)
    refine s_t (x_q (e_move rfl) rfl ?_)
    refine s_g rfl (x_q (e_move rfl) rfl ?_)
    refine s_g rfl (x_q (e_len rfl (lenStr un9)) rfl ?_)
    refine s_g rfl (x_q (e_bin rfl rfl (bIs (show decide ((s.size : Int) > 3) = true by rw [decide_eq_true_eq]; omega))) rfl ?_)
    refine s_t (x_q (e_pickF rfl rfl rfl) rfl ?_)
    refine s_nil ?_
    refine (aw_ifT rfl ?_)
    refine aw_seq (aw_reg ?_)
    refine s_t (x_q (e_assign rfl) rfl ?_)
    refine s_nil ?_
    refine aw_ret (fn_ret rfl ⟨congrArg Value.bool ?_, rfl, rfl⟩)
    rw [← hb]; unfold isTag; rw [hsz]
    have h1 : (s.size == 2) = false := by rw [beq_eq_false_iff_ne]; omega
    have h2 : (s.size == 3) = false := by rw [beq_eq_false_iff_ne]; omega
    rw [h1, h2]; rfl
  refine aw_seq (aw_reg ?_)
  refine s_t (x_q (e_assign rfl) rfl ?_)
  refine s_nil ?_
  refine aw_seq (aw_seq (aw_reg ?_))
  refine s_t (x_q (e_move rfl) rfl ?_)
  refine s_t (x_q (e_len rfl (lenStr un9)) rfl ?_)
  refine s_t (x_q (e_bin rfl rfl (bIs (show decide ((s.size : Int) < 2) = false by rw [decide_eq_false_iff_not]; omega))) rfl ?_)
  refine s_t (x_q (e_move rfl) rfl ?_)
  refine s_g rfl (x_q (e_move rfl) rfl ?_)
  refine s_g rfl (x_q (e_len rfl (lenStr un9)) rfl ?_)
  refine s_g rfl (x_q (e_bin rfl rfl (bIs (show decide ((s.size : Int) > 3) = false by rw [decide_eq_false_iff_not]; omega))) rfl ?_)
  refine s_t (x_q (e_pickF rfl rfl rfl) rfl ?_)
  refine s_nil ?_
  refine (aw_ifF rfl (aw_skip ?_))
  refine aw_seq (aw_seq (aw_reg ?_))
  refine s_t (x_q (e_move rfl) rfl ?_)
  refine s_t (x_q (e_len rfl (lenStr un9)) rfl ?_)
  refine s_t (x_q (e_move rfl) rfl ?_)
  refine s_nil ?_
  refine aw_block (aw_loop (α := Nat) (fun k => ⟨tms [(0, .string s), (13, .int .i64 s.size), (14, .int .i64 (k : Int))], hp, nx, []⟩) (fun k => k ≤ s.size ∧ (s.data.toList.take k).all isUp = true) (fun k => s.size - k) 0 ⟨Nat.zero_le _, by simp⟩ (wk_tms (wk_cons rfl (wk_cons rfl (wk_cons rfl wk_nil))) (fun _ _ h => h) (Nat.le_refl _)) ?_)
  intro k ⟨hk, hall⟩
  by_cases hlt : k < s.size
  · have hkl : k < s.data.toList.length := by omega
    have hget : s.data.toList[k]? = some s.data.toList[k] := List.getElem?_eq_getElem hkl
    refine aw_seq (aw_reg ?_)
    refine s_t (x_q (e_bin rfl rfl (bIs (show decide ((k : Int) < s.size) = true by rw [decide_eq_true_eq]; omega))) rfl ?_)
    refine s_nil ?_
    refine aw_seq ((aw_ifT rfl (aw_skip ?_)))
    cases hu : isUp s.data.toList[k] with
    | true =>
      refine aw_seq (aw_block ?_)
      refine aw_seq (aw_reg ?_)
      refine s_t (x_q (e_move rfl) rfl ?_)
      refine s_t (x_q (e_assign rfl) rfl ?_)
      refine s_nil ?_
      refine aw_seq (aw_reg ?_)
      refine s_t (x_q (e_move rfl) rfl ?_)
      refine s_t (x_q (e_move rfl) rfl ?_)
      refine s_t (x_q (e_ix rfl rfl (ixStr un9 hget)) rfl ?_)
      refine s_t (x_pure rfl rfl rfl (upper_c hu) ?_)
      refine s_t (x_q (e_un rfl rfl) rfl ?_)
      refine s_nil ?_
      refine (aw_ifF rfl (aw_skip ?_))
      refine aw_reg ?_
      refine s_t (x_q (e_bin rfl rfl (b_addN _ 1 (by omega))) rfl ?_)
      refine s_t (x_q (e_move rfl) rfl ?_)
      refine s_nil ?_
      refine ⟨k + 1, ⟨by omega, ?_⟩, by omega, wk_tms (wk_cons rfl (wk_cons rfl (wk_cons rfl wk_nil))) (fun _ _ h => h) (Nat.le_refl _)⟩
      rw [List.take_succ_eq_append_getElem hkl, List.all_append, hall, List.all_cons, List.all_nil, hu]; rfl
    | false =>
      refine aw_seq (aw_block ?_)
      refine aw_seq (aw_reg ?_)
      refine s_t (x_q (e_move rfl) rfl ?_)
      refine s_t (x_q (e_assign rfl) rfl ?_)
      refine s_nil ?_
      refine aw_seq (aw_reg ?_)
      refine s_t (x_q (e_move rfl) rfl ?_)
      refine s_t (x_q (e_move rfl) rfl ?_)
      refine s_t (x_q (e_ix rfl rfl (ixStr un9 hget)) rfl ?_)
      refine s_t (x_pure rfl rfl rfl (upper_c hu) ?_)
      refine s_t (x_q (e_un rfl rfl) rfl ?_)
      refine s_nil ?_
      refine (aw_ifT rfl ?_)
      refine aw_seq (aw_reg ?_)
      refine s_t (x_q (e_assign rfl) rfl ?_)
      refine s_nil ?_
      refine aw_ret (fn_ret rfl ⟨congrArg Value.bool ?_, rfl, rfl⟩)
      rw [← hb]
      have : s.data.toList.all isUp = false := by
        rw [List.all_eq_false]; exact ⟨_, List.getElem_mem hkl, by rw [hu]; exact Bool.false_ne_true⟩
      simp [isTag, this]
  · refine aw_seq (aw_reg ?_)
    refine s_t (x_q (e_bin rfl rfl (bIs (show decide ((k : Int) < s.size) = false by rw [decide_eq_false_iff_not]; omega))) rfl ?_)
    refine s_nil ?_
    refine aw_seq ((aw_ifF rfl (aw_exit ?_)))
    refine aw_seq (aw_reg ?_)
    refine s_t (x_q (e_assign rfl) rfl ?_)
    refine s_nil ?_
    refine aw_ret (fn_ret rfl ⟨congrArg Value.bool ?_, rfl, rfl⟩)
    rw [← hb]
    rw [List.take_of_length_le (by omega)] at hall
    unfold isTag; rw [hall, hsz]
    have : s.size = 2 ∨ s.size = 3 := by omega
    rcases this with h | h <;> rw [h] <;> rfl
end Go.Proofs.YtkjkoejnicbieaaGreat.AM

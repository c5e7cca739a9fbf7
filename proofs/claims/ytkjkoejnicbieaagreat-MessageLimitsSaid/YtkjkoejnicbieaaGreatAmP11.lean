/-
  The message's functions, walked: 'strings.ContainsFunc' at Print's own test.
-/
import Derived.Test.YtkjkoejnicbieaaGreatAmP10
namespace Go.Proofs.YtkjkoejnicbieaaGreat.AM
open Go Go.RowKit

theorem get_at {s : ByteArray} {k : Nat} (hk : k < s.size) : (s.get! (k + 0)).toNat = (s.data.toList.getD k 0).toNat := by
  have h1 : s.data.toList.getD k 0 = s.data[k]'hk := by
    rw [List.getD_eq_getElem?_getD, Array.getElem?_toList, Array.getElem?_eq_getElem hk]; rfl
  rw [h1, Nat.add_zero]
  have : s.get! k = s.data[k]'hk := by
    show s.data[k]! = _
    rw [getElem!_pos s.data k hk]
  rw [this]

theorem decode_lo {s : ByteArray} {k : Nat} (hk : k < s.size) (h : (s.data.toList.getD k 0).toNat < 128) : Utf8.decode s k = ((s.data.toList.getD k 0).toNat, 1) := by
  unfold Utf8.decode
  simp only [get_at hk]
  rw [if_pos h]
theorem decode_hi {s : ByteArray} {k : Nat} (hk : k < s.size) (h : 128 ≤ (s.data.toList.getD k 0).toNat) : 126 < (Utf8.decode s k).1 := by
  unfold Utf8.decode
  simp only [get_at hk]
  rw [if_neg (by omega)]
  have hr : 126 < Utf8.runeError := by decide
  split
  · split
    · simp only; omega
    · exact hr
  · split
    · split
      · rename_i hc
        simp only [Bool.and_eq_true, decide_eq_true_eq] at hc
        simp only; omega
      · exact hr
    · split
      · split
        · rename_i hc
          simp only [Bool.and_eq_true, decide_eq_true_eq] at hc
          simp only; omega
        · exact hr
      · exact hr

theorem beqTT : binA Tryz.prog .eql 4 false false (.bool true) (.bool true) = some (.bool true) := by kernel_rfl
theorem beqFT : binA Tryz.prog .eql 4 false false (.bool false) (.bool true) = some (.bool false) := by kernel_rfl

theorem badch_c {hp : Tr AObj} {nx : Nat} {r : Int} {b : Bool} (hb : (decide (r < 32) || decide (126 < r)) = b) :
    ACall Tryz.prog 0 22 [.int .i32 r] hp nx (fun v hp' nx' => v = .bool b ∧ hp' = hp ∧ nx' = nx) := by
  refine acall_fn named7 Tryz.func22 rfl rfl ?_
  show AW _ _ _ _ ⟨tms [(0, .int .i32 r)], hp, nx, []⟩ _
  subst hb
  by_cases h1 : r < 32
  · refine aw_seq (aw_reg ?_)
    refine s_t (x_q (e_assign rfl) rfl ?_)
    refine s_nil ?_
    refine aw_seq (aw_reg ?_)
    refine s_t (x_q (e_move rfl) rfl ?_)
    refine s_t (x_q (e_bin rfl rfl (dT h1)) rfl ?_)
    refine s_t (x_q (e_move rfl) rfl ?_)
    refine s_n rfl rfl ?_
    refine s_n rfl rfl ?_
    refine s_t (x_q (e_pickT rfl rfl rfl) rfl ?_)
    refine s_t (x_q (e_assign rfl) rfl ?_)
    refine s_nil ?_
    exact aw_ret (fn_ret rfl ⟨by rw [decide_eq_true h1]; rfl, rfl, rfl⟩)
  by_cases h2 : 126 < r
  · refine aw_seq (aw_reg ?_)
    refine s_t (x_q (e_assign rfl) rfl ?_)
    refine s_nil ?_
    refine aw_seq (aw_reg ?_)
    refine s_t (x_q (e_move rfl) rfl ?_)
    refine s_t (x_q (e_bin rfl rfl (dF h1)) rfl ?_)
    refine s_t (x_q (e_move rfl) rfl ?_)
    refine s_g rfl (x_q (e_move rfl) rfl ?_)
    refine s_g rfl (x_q (e_bin rfl rfl (dT h2)) rfl ?_)
    refine s_t (x_q (e_pickF rfl rfl rfl) rfl ?_)
    refine s_t (x_q (e_assign rfl) rfl ?_)
    refine s_nil ?_
    exact aw_ret (fn_ret rfl ⟨by rw [decide_eq_true h2, Bool.or_true]; rfl, rfl, rfl⟩)
  refine aw_seq (aw_reg ?_)
  refine s_t (x_q (e_assign rfl) rfl ?_)
  refine s_nil ?_
  refine aw_seq (aw_reg ?_)
  refine s_t (x_q (e_move rfl) rfl ?_)
  refine s_t (x_q (e_bin rfl rfl (dF h1)) rfl ?_)
  refine s_t (x_q (e_move rfl) rfl ?_)
  refine s_g rfl (x_q (e_move rfl) rfl ?_)
  refine s_g rfl (x_q (e_bin rfl rfl (dF h2)) rfl ?_)
  refine s_t (x_q (e_pickF rfl rfl rfl) rfl ?_)
  refine s_t (x_q (e_assign rfl) rfl ?_)
  refine s_nil ?_
  exact aw_ret (fn_ret rfl ⟨by rw [decide_eq_false h1, decide_eq_false h2]; rfl, rfl, rfl⟩)

theorem idxf_c {hp : Tr AObj} {nx : Nat} {s : ByteArray} (hs : s.size < BIG) (hf : Fr hp nx) :
    ACall Tryz.prog 0 55 [.string s, .func (.func 22) #[] #[], .bool true] hp nx (fun v hp' nx' => (s.data.toList.all okCh = true → v = .int .i64 (-1)) ∧ (s.data.toList.all okCh = false → ∃ k : Nat, v = .int .i64 (k : Int)) ∧ Sub hp hp') := by
  unfold BIG at hs
  refine acall_fn named7 Tryz.func55 rfl rfl ?_
  show AW _ _ _ _ ⟨tms [(2, .bool true), (1, .func (.func 22) #[] #[]), (0, .string s)], hp, nx, []⟩ _
  refine aw_seq (aw_reg ?_)
  refine s_t (x_q (e_assign rfl) rfl ?_)
  refine s_nil ?_
  refine aw_seq (aw_seq (aw_reg ?_))
  refine s_t (x_q (e_move rfl) rfl ?_)
  refine s_t (x_range rfl un9 rfl ?_)
  refine s_nil ?_
  refine aw_block (aw_loop (α := TS) (fun x => ⟨tms [(1, .func (.func 22) #[] #[]), (2, .bool true), (10, .pointer (some ⟨nx, 0, none⟩))], x.hp, nx + 1, []⟩) (fun x => x.k ≤ s.size ∧ x.hp.get nx = some (.siter s x.k) ∧ Sub hp x.hp ∧ (s.data.toList.take x.k).all okCh = true) (fun x => s.size - x.k) ⟨0, hp.set nx (some (.siter s 0))⟩ ⟨Nat.zero_le _, Tr.get_set_same _ _ _, hf.sub _, by simp⟩ (wk_tms (wk_cons rfl (wk_cons rfl (wk_cons rfl wk_nil))) sub_rfl (Nat.le_refl _)) ?_)
  rintro ⟨k, h1⟩ ⟨hk, hg, hsub, hall⟩
  simp only at hk hg hsub hall
  dsimp only
  by_cases hlt : k < s.size
  · have hkl : k < s.data.toList.length := by rw [size_list]; exact hlt
    have bad := all_bad (f := okCh) (getD_mem (d := (0 : UInt8)) hkl)
    have good := all_step (f := okCh) (d := (0 : UInt8)) hall hkl
    have hnext : nextA h1 (.pointer (some ⟨nx, 0, none⟩)) true = some [(.tuple #[.bool true, .int .i64 (k : Int), .int .i32 ((Utf8.decode s k).1 : Int)], h1.set nx (some (.siter s (k + (Utf8.decode s k).2))))] := by
      have hb : Nat.blt k s.size = true := by rw [Nat.blt_eq]; exact hlt
      simp only [nextA, hg, hb, cond_true]
    by_cases hlo : (s.data.toList.getD k 0).toNat < 128
    · rw [decode_lo hlt hlo] at hnext
      simp only at hnext
      cases hok : okCh (s.data.toList.getD k 0) with
      | true =>
        have hr : (decide (((s.data.toList.getD k 0).toNat : Int) < 32) || decide (126 < ((s.data.toList.getD k 0).toNat : Int))) = false := by
          unfold okCh at hok
          simp only [Bool.and_eq_true, decide_eq_true_eq] at hok
          rw [decide_eq_false (by omega), decide_eq_false (by omega)]; rfl
        refine aw_seq (aw_reg ?_)
        refine s_t (x_next rfl hnext rfl ?_)
        refine s_t (x_q (e_ext rfl rfl) rfl ?_)
        refine s_nil ?_
        refine aw_seq ((aw_ifT rfl (aw_skip ?_)))
        refine aw_block ?_
        refine aw_seq (aw_reg ?_)
        refine s_t (x_q (e_ext rfl rfl) rfl ?_)
        refine s_t (x_q (e_ext rfl rfl) rfl ?_)
        refine s_t (x_q (e_assign rfl) rfl ?_)
        refine s_t (x_q (e_assign rfl) rfl ?_)
        refine s_nil ?_
        refine aw_seq (aw_reg ?_)
        refine s_t (x_q (e_move rfl) rfl ?_)
        refine s_t (x_q (e_move rfl) rfl ?_)
        refine s_t (x_pure rfl rfl rfl (badch_c hr) ?_)
        refine s_t (x_q (e_move rfl) rfl ?_)
        refine s_t (x_q (e_bin rfl rfl beqFT) rfl ?_)
        refine s_nil ?_
        refine (aw_ifF rfl (aw_skip ?_))
        refine ⟨⟨k + 1, h1.set nx (some (.siter s (k + 1)))⟩, ⟨by simp only; omega, Tr.get_set_same _ _ _, fun i o h => ?_, good hok⟩, by simp only; omega, wk_tms (wk_cons rfl (wk_cons rfl (wk_cons rfl wk_nil))) sub_rfl (Nat.le_refl _)⟩
        have := hf i o h
        show (h1.set nx _).get i = some o
        rw [Tr.get_set_ne _ _ (by omega)]; exact hsub i o h
      | false =>
        have hr : (decide (((s.data.toList.getD k 0).toNat : Int) < 32) || decide (126 < ((s.data.toList.getD k 0).toNat : Int))) = true := by
          unfold okCh at hok
          rw [Bool.and_eq_false_iff] at hok
          rcases hok with h | h
          · have := of_decide_eq_false h; rw [decide_eq_true (by omega)]; rfl
          · have := of_decide_eq_false h; rw [decide_eq_true (p := 126 < ((s.data.toList.getD k 0).toNat : Int)) (by omega), Bool.or_true]
        refine aw_seq (aw_reg ?_)
        refine s_t (x_next rfl hnext rfl ?_)
        refine s_t (x_q (e_ext rfl rfl) rfl ?_)
        refine s_nil ?_
        refine aw_seq ((aw_ifT rfl (aw_skip ?_)))
        refine aw_block ?_
        refine aw_seq (aw_reg ?_)
        refine s_t (x_q (e_ext rfl rfl) rfl ?_)
        refine s_t (x_q (e_ext rfl rfl) rfl ?_)
        refine s_t (x_q (e_assign rfl) rfl ?_)
        refine s_t (x_q (e_assign rfl) rfl ?_)
        refine s_nil ?_
        refine aw_seq (aw_reg ?_)
        refine s_t (x_q (e_move rfl) rfl ?_)
        refine s_t (x_q (e_move rfl) rfl ?_)
        refine s_t (x_pure rfl rfl rfl (badch_c hr) ?_)
        refine s_t (x_q (e_move rfl) rfl ?_)
        refine s_t (x_q (e_bin rfl rfl beqTT) rfl ?_)
        refine s_nil ?_
        refine (aw_ifT rfl ?_)
        refine aw_seq (aw_reg ?_)
        refine s_t (x_q (e_move rfl) rfl ?_)
        refine s_t (x_q (e_assign rfl) rfl ?_)
        refine s_nil ?_
        refine aw_ret (fn_ret rfl ⟨fun h => (by rw [bad hok] at h; cases h), fun _ => ⟨k, rfl⟩, fun i o h => ?_⟩)
        have := hf i o h
        rw [Tr.get_set_ne _ _ (by omega)]; exact hsub i o h
    · have hdh := decode_hi hlt (by omega)
      have hok : okCh (s.data.toList.getD k 0) = false := by unfold okCh; rw [decide_eq_false (p := (s.data.toList.getD k 0).toNat ≤ 126) (by omega), Bool.and_false]
      have hr : (decide (((Utf8.decode s k).1 : Int) < 32) || decide (126 < ((Utf8.decode s k).1 : Int))) = true := by
        rw [decide_eq_true (p := 126 < ((Utf8.decode s k).1 : Int)) (by omega), Bool.or_true]
      refine aw_seq (aw_reg ?_)
      refine s_t (x_next rfl hnext rfl ?_)
      refine s_t (x_q (e_ext rfl rfl) rfl ?_)
      refine s_nil ?_
      refine aw_seq ((aw_ifT rfl (aw_skip ?_)))
      refine aw_block ?_
      refine aw_seq (aw_reg ?_)
      refine s_t (x_q (e_ext rfl rfl) rfl ?_)
      refine s_t (x_q (e_ext rfl rfl) rfl ?_)
      refine s_t (x_q (e_assign rfl) rfl ?_)
      refine s_t (x_q (e_assign rfl) rfl ?_)
      refine s_nil ?_
      refine aw_seq (aw_reg ?_)
      refine s_t (x_q (e_move rfl) rfl ?_)
      refine s_t (x_q (e_move rfl) rfl ?_)
      refine s_t (x_pure rfl rfl rfl (badch_c hr) ?_)
      refine s_t (x_q (e_move rfl) rfl ?_)
      refine s_t (x_q (e_bin rfl rfl beqTT) rfl ?_)
      refine s_nil ?_
      refine (aw_ifT rfl ?_)
      refine aw_seq (aw_reg ?_)
      refine s_t (x_q (e_move rfl) rfl ?_)
      refine s_t (x_q (e_assign rfl) rfl ?_)
      refine s_nil ?_
      refine aw_ret (fn_ret rfl ⟨fun h => (by rw [bad hok] at h; cases h), fun _ => ⟨k, rfl⟩, fun i o h => ?_⟩)
      have := hf i o h
      rw [Tr.get_set_ne _ _ (by omega)]; exact hsub i o h
  · have hnext : nextA h1 (.pointer (some ⟨nx, 0, none⟩)) true = some [(.tuple #[.bool false], h1)] := by
      have hb : Nat.blt k s.size = false := by
        cases hq : Nat.blt k s.size with
        | false => rfl
        | true => rw [Nat.blt_eq] at hq; exact absurd hq hlt
      simp only [nextA, hg, hb, cond_false]
    refine aw_seq (aw_reg ?_)
    refine s_t (x_next rfl hnext rfl ?_)
    refine s_t (x_q (e_ext rfl rfl) rfl ?_)
    refine s_nil ?_
    refine aw_seq ((aw_ifF rfl (aw_exit ?_)))
    refine aw_seq (aw_reg ?_)
    refine s_t (x_q (e_assign rfl) rfl ?_)
    refine s_nil ?_
    exact aw_ret (fn_ret rfl ⟨fun _ => rfl, fun h => (by rw [all_end hall (by rw [size_list]; omega)] at h; cases h), hsub⟩)

theorem idxf2_c {hp : Tr AObj} {nx : Nat} {s : ByteArray} (hs : s.size < BIG) (hf : Fr hp nx) :
    ACall Tryz.prog 0 41 [.string s, .func (.func 22) #[] #[]] hp nx (fun v hp' nx' => (s.data.toList.all okCh = true → v = .int .i64 (-1)) ∧ (s.data.toList.all okCh = false → ∃ k : Nat, v = .int .i64 (k : Int)) ∧ Sub hp hp') := by
  refine acall_fn named7 Tryz.func41 rfl rfl ?_
  show AW _ _ _ _ ⟨tms [(1, .func (.func 22) #[] #[]), (0, .string s)], hp, nx, []⟩ _
  refine aw_seq (aw_reg ?_)
  refine s_t (x_q (e_assign rfl) rfl ?_)
  refine s_nil ?_
  refine aw_seq (aw_reg ?_)
  refine s_t (x_q (e_move rfl) rfl ?_)
  refine s_t (x_q (e_move rfl) rfl ?_)
  refine s_t (x_call rfl rfl rfl (idxf_c hs hf) ?_)
  rintro v h1 n1 h
  refine s_t (x_q (e_assign rfl) rfl ?_)
  refine s_nil ?_
  exact aw_ret (fn_ret rfl h)

theorem contf_c {hp : Tr AObj} {nx : Nat} {s : ByteArray} (hs : s.size < BIG) (hf : Fr hp nx) {b : Bool} (hb : s.data.toList.all okCh = b) :
    ACall Tryz.prog 0 21 [.string s, .func (.func 22) #[] #[]] hp nx (fun v hp' nx' => v = .bool (!b) ∧ hp' = hp ∧ nx' = nx) := by
  refine ACall.pure (S := fun v hp' _ => v = .bool (!b) ∧ Sub hp hp') ?_ (fun v hp' nx' h => h) rfl
  refine acall_fn named7 Tryz.func21 rfl rfl ?_
  show AW _ _ _ _ ⟨tms [(1, .func (.func 22) #[] #[]), (0, .string s)], hp, nx, []⟩ _
  refine aw_seq (aw_reg ?_)
  refine s_t (x_q (e_assign rfl) rfl ?_)
  refine s_nil ?_
  cases b with
  | true =>
    refine aw_seq (aw_reg ?_)
    refine s_t (x_q (e_move rfl) rfl ?_)
    refine s_t (x_q (e_move rfl) rfl ?_)
    refine s_t (x_call rfl rfl rfl (idxf2_c hs hf) ?_)
    rintro _ h1 n1 ⟨h, _, hsub⟩
    obtain rfl := h hb
    refine s_t (x_q (e_bin rfl rfl rfl) rfl ?_)
    refine s_t (x_q (e_assign rfl) rfl ?_)
    refine s_nil ?_
    exact aw_ret (fn_ret rfl ⟨rfl, hsub⟩)
  | false =>
    refine aw_seq (aw_reg ?_)
    refine s_t (x_q (e_move rfl) rfl ?_)
    refine s_t (x_q (e_move rfl) rfl ?_)
    refine s_t (x_call rfl rfl rfl (idxf2_c hs hf) ?_)
    rintro _ h1 n1 ⟨_, h, hsub⟩
    obtain ⟨k, rfl⟩ := h hb
    refine s_t (x_q (e_bin rfl rfl geT) rfl ?_)
    refine s_t (x_q (e_assign rfl) rfl ?_)
    refine s_nil ?_
    exact aw_ret (fn_ret rfl ⟨rfl, hsub⟩)
end Go.Proofs.YtkjkoejnicbieaaGreat.AM

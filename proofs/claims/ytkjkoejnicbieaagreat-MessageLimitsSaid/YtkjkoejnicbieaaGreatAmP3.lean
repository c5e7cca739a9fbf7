/-
  The message's functions, walked: those that only read: 'texts', 'messages', 'brief'.
-/
import Derived.Test.YtkjkoejnicbieaaGreatAmP1
import Derived.Test.YtkjkoejnicbieaaGreatAmD1
namespace Go.Proofs.YtkjkoejnicbieaaGreat.AM
open Go Go.RowKit

theorem dT {p : Prop} [Decidable p] (h : p) : some (Value.bool (decide p)) = some (Value.bool true) := by rw [decide_eq_true h]
theorem dF {p : Prop} [Decidable p] (h : ¬ p) : some (Value.bool (decide p)) = some (Value.bool false) := by rw [decide_eq_false h]
theorem nT {a b : Int} (h : a ≠ b) : some (Value.bool (a != b)) = some (Value.bool true) := by rw [bne_iff_ne.2 h]
theorem nF {a b : Int} (h : a = b) : some (Value.bool (a != b)) = some (Value.bool false) := by rw [h, bne_self_eq_false]
theorem sT {x y : ByteArray} (h : x ≠ y) : some (Value.bool (!strEq x.data.toList y.data.toList)) = some (Value.bool true) := by
  have : strEq x.data.toList y.data.toList = false := by
    rw [← strEq_eq]
    cases hq : (x.data.toList == y.data.toList) with
    | false => rfl
    | true => exact absurd (ByteArray.ext (Array.ext' (eq_of_beq hq))) h
  rw [this]; rfl
theorem sF {x y : ByteArray} (h : x = y) : some (Value.bool (!strEq x.data.toList y.data.toList)) = some (Value.bool false) := by
  have : strEq x.data.toList y.data.toList = true := by rw [← strEq_eq, h]; exact beq_self_eq_true _
  rw [this]; rfl
theorem sub_rfl {hp : Tr AObj} : ∀ i o, hp.get i = some o → hp.get i = some o := fun _ _ h => h

theorem ext_take {α : Type} {a b : List α} {d : α} (hl : a.length = b.length) (h : ∀ i, i < a.length → a.getD i d = b.getD i d) : a = b := by
  apply List.ext_getElem? 
  intro i
  by_cases hi : i < a.length
  · rw [getD_some (d := d) hi, getD_some (d := d) (by omega), h i hi]
  · rw [List.getElem?_eq_none (by omega), List.getElem?_eq_none (by omega)]

theorem texts_c {hp : Tr AObj} {nx : Nat} {va vb : Value} {a b : List ByteArray} (ha : RdStrs hp va a) (hb : RdStrs hp vb b) (hla : a.length < BIG) (hlb : b.length < BIG) {r : Bool} (hr : r = true ↔ a = b) :
    ACall Tryz.prog 0 16 [va, vb] hp nx (fun v hp' nx' => v = .bool r ∧ hp' = hp ∧ nx' = nx) := by
  unfold BIG at hla hlb
  obtain ⟨ba, ca, rfl, ha⟩ := ha
  obtain ⟨bb, cb, rfl, hb⟩ := hb
  refine acall_fn named7 Tryz.func16 rfl rfl ?_
  show AW _ _ _ _ ⟨tms [(1, .slice bb b.length cb), (0, .slice ba a.length ca)], hp, nx, []⟩ _
  have hF : ¬ a = b → r = false := fun h => by cases r with | false => rfl | true => exact absurd (hr.1 rfl) h
  by_cases hne : a.length = b.length
  · refine aw_seq (aw_reg ?_)
    refine s_t (x_q (e_assign rfl) rfl ?_)
    refine s_nil ?_
    refine aw_seq (aw_seq (aw_reg ?_))
    refine s_t (x_q (e_move rfl) rfl ?_)
    refine s_t (x_q (e_len rfl (lenSl un28)) rfl ?_)
    refine s_t (x_q (e_move rfl) rfl ?_)
    refine s_t (x_q (e_len rfl (lenSl un28)) rfl ?_)
    refine s_t (x_q (e_bin rfl rfl (nF (by omega))) rfl ?_)
    refine s_nil ?_
    refine (aw_ifF rfl (aw_skip ?_))
    refine aw_seq (aw_seq (aw_reg ?_))
    refine s_t (x_q (e_assign rfl) rfl ?_)
    refine s_nil ?_
    refine aw_block (aw_loop (α := Nat) (fun k => ⟨tms [(0, .slice ba a.length ca), (1, .slice bb b.length cb), (5, .int .i64 (k : Int))], hp, nx, []⟩) (fun k => k ≤ a.length ∧ ∀ i, i < k → a.getD i ⟨#[]⟩ = b.getD i ⟨#[]⟩) (fun k => a.length - k) 0 ⟨Nat.zero_le _, fun i h => by omega⟩ (wk_tms (wk_cons rfl (wk_cons rfl (wk_cons rfl wk_nil))) sub_rfl (Nat.le_refl _)) ?_)
    intro k ⟨hk, hall⟩
    by_cases hlt : k < a.length
    · obtain ⟨b1, o1, c1, e1, fz1, ro1, hd1, rfl, hg1, hc1⟩ := ha (by omega)
      obtain ⟨b2, o2, c2, e2, fz2, ro2, hd2, rfl, hg2, hc2⟩ := hb (by omega)
      obtain ⟨u1, q1, rfl⟩ := hc1 k hlt
      obtain ⟨u2, q2, rfl⟩ := hc2 k (by omega)
      refine aw_seq (aw_seq (aw_reg ?_))
      refine s_t (x_q (e_move rfl) rfl ?_)
      refine s_t (x_q (e_move rfl) rfl ?_)
      refine s_t (x_q (e_len rfl (lenSl un28)) rfl ?_)
      refine s_t (x_q (e_bin rfl rfl (dT (by omega))) rfl ?_)
      refine s_nil ?_
      refine (aw_ifT rfl (aw_skip ?_))
      refine aw_seq (aw_block ?_)
      by_cases hs : a.getD k ⟨#[]⟩ = b.getD k ⟨#[]⟩
      · refine aw_seq (aw_any mixed7 [(0, true), (1, true), (2, true), (4, true), (5, true), (6, true), (3, true), (7, true), (8, true)] (by kernel_rfl) (by kernel_rfl) (by kernel_rfl) ?_)
        refine a_q rfl (e_move rfl) rfl ?_
        refine a_q rfl (e_move rfl) rfl ?_
        refine a_q rfl (e_ia rfl rfl (iaSl un28 sz9 hlt)) rfl ?_
        refine a_q rfl (e_move rfl) rfl ?_
        refine a_q rfl (e_move rfl) rfl ?_
        refine a_q rfl (e_ia rfl rfl (iaSl un28 sz9 (by omega))) rfl ?_
        refine a_q rfl (e_load rfl (ld1 ag9 hg1 q1)) rfl ?_
        refine a_q rfl (e_load rfl (ld1 ag9 hg2 q2)) rfl ?_
        refine a_q rfl (e_bin rfl rfl (sF hs)) rfl ?_
        refine (aw_ifF rfl (aw_skip ?_))
        refine aw_reg ?_
        refine s_t (x_q (e_move rfl) rfl ?_)
        refine s_t (x_q (e_bin rfl rfl (b_addN _ 1 (by omega))) rfl ?_)
        refine s_t (x_q (e_assign rfl) rfl ?_)
        refine s_nil ?_
        refine ⟨k + 1, ⟨by omega, fun i hi => ?_⟩, by omega, wk_tms (wk_cons rfl (wk_cons rfl (wk_cons rfl wk_nil))) sub_rfl (Nat.le_refl _)⟩
        by_cases e : i = k
        · rw [e]; exact hs
        · exact hall i (by omega)
      · refine aw_seq (aw_any mixed7 [(0, true), (1, true), (2, true), (4, true), (5, true), (6, true), (3, true), (7, true), (8, true)] (by kernel_rfl) (by kernel_rfl) (by kernel_rfl) ?_)
        refine a_q rfl (e_move rfl) rfl ?_
        refine a_q rfl (e_move rfl) rfl ?_
        refine a_q rfl (e_ia rfl rfl (iaSl un28 sz9 hlt)) rfl ?_
        refine a_q rfl (e_move rfl) rfl ?_
        refine a_q rfl (e_move rfl) rfl ?_
        refine a_q rfl (e_ia rfl rfl (iaSl un28 sz9 (by omega))) rfl ?_
        refine a_q rfl (e_load rfl (ld1 ag9 hg1 q1)) rfl ?_
        refine a_q rfl (e_load rfl (ld1 ag9 hg2 q2)) rfl ?_
        refine a_q rfl (e_bin rfl rfl (sT hs)) rfl ?_
        refine (aw_ifT rfl ?_)
        refine aw_seq (aw_reg ?_)
        refine s_t (x_q (e_assign rfl) rfl ?_)
        refine s_nil ?_
        exact aw_ret (fn_ret rfl ⟨by rw [hF fun h => hs (by rw [h])]; rfl, rfl, rfl⟩)
    · refine aw_seq (aw_seq (aw_reg ?_))
      refine s_t (x_q (e_move rfl) rfl ?_)
      refine s_t (x_q (e_move rfl) rfl ?_)
      refine s_t (x_q (e_len rfl (lenSl un28)) rfl ?_)
      refine s_t (x_q (e_bin rfl rfl (dF (by omega))) rfl ?_)
      refine s_nil ?_
      refine (aw_ifF rfl (aw_exit ?_))
      refine aw_seq (aw_reg ?_)
      refine s_t (x_q (e_assign rfl) rfl ?_)
      refine s_nil ?_
      exact aw_ret (fn_ret rfl ⟨by rw [hr.2 (ext_take hne fun i hi => hall i (by omega))]; rfl, rfl, rfl⟩)
  · refine aw_seq (aw_reg ?_)
    refine s_t (x_q (e_assign rfl) rfl ?_)
    refine s_nil ?_
    refine aw_seq (aw_seq (aw_reg ?_))
    refine s_t (x_q (e_move rfl) rfl ?_)
    refine s_t (x_q (e_len rfl (lenSl un28)) rfl ?_)
    refine s_t (x_q (e_move rfl) rfl ?_)
    refine s_t (x_q (e_len rfl (lenSl un28)) rfl ?_)
    refine s_t (x_q (e_bin rfl rfl (nT (by omega))) rfl ?_)
    refine s_nil ?_
    refine (aw_ifT rfl ?_)
    refine aw_seq (aw_reg ?_)
    refine s_t (x_q (e_assign rfl) rfl ?_)
    refine s_nil ?_
    exact aw_ret (fn_ret rfl ⟨by rw [hF fun h => hne (by rw [h])]; rfl, rfl, rfl⟩)

theorem brief_c {hp : Tr AObj} {nx : Nat} {v : Value} {m : List Seg} (hm : RdMsg hp v m) (hfit : Fits m) :
    ACall Tryz.prog 0 7 [v] hp nx (fun v hp' nx' => ∃ b, v = .bool b ∧ hp' = hp ∧ nx' = nx) := by
  obtain ⟨hlm, hfit⟩ := hfit
  unfold BIG at hlm
  obtain ⟨ba, ca, rfl, hm⟩ := hm
  refine acall_fn named7 Tryz.func7 rfl rfl ?_
  show AW _ _ _ _ ⟨tms [(0, .slice ba m.length ca)], hp, nx, []⟩ _
  refine aw_seq (aw_reg ?_)
  refine s_t (x_q (e_assign rfl) rfl ?_)
  refine s_nil ?_
  refine aw_seq (aw_reg ?_)
  refine s_t (x_q (e_assign rfl) rfl ?_)
  refine s_nil ?_
  refine aw_seq (aw_seq (aw_reg ?_))
  refine s_t (x_q (e_assign rfl) rfl ?_)
  refine s_nil ?_
  refine aw_block (aw_loop (α := Int × Nat) (fun p => ⟨tms [(0, .slice ba m.length ca), (3, .int .i64 p.1), (4, .int .i64 (p.2 : Int))], hp, nx, []⟩) (fun p => p.2 ≤ m.length) (fun p => m.length - p.2) (0, 0) (Nat.zero_le _) (wk_tms (wk_cons rfl (wk_cons rfl (wk_cons rfl wk_nil))) sub_rfl (Nat.le_refl _)) ?_)
  rintro ⟨x, k⟩ hk
  simp only at hk
  by_cases hlt : k < m.length
  · obtain ⟨b1, o1, c1, e1, fz1, ro1, hd1, rfl, hg1, hc1⟩ := hm (by omega)
    obtain ⟨q1, u, q2, he⟩ := hc1 k hlt
    obtain ⟨_, hle, hyy⟩ := hfit _ (getD_mem (d := default) hlt)
    unfold BIG at hle hyy
    obtain ⟨be, ce, rfl, he⟩ := he
    refine aw_seq (aw_seq (aw_reg ?_))
    refine s_t (x_q (e_move rfl) rfl ?_)
    refine s_t (x_q (e_move rfl) rfl ?_)
    refine s_t (x_q (e_len rfl (lenSl un22)) rfl ?_)
    refine s_t (x_q (e_bin rfl rfl (dT (by omega))) rfl ?_)
    refine s_nil ?_
    refine (aw_ifT rfl (aw_skip ?_))
    refine aw_seq (aw_block ?_)
    refine aw_seq (aw_reg ?_)
    refine s_t (x_q (e_move rfl) rfl ?_)
    refine s_t (x_q (e_move rfl) rfl ?_)
    refine s_t (x_q (e_move rfl) rfl ?_)
    refine s_t (x_q (e_ia rfl rfl (iaSl un22 sz31 hlt)) rfl ?_)
    refine s_t (x_q (e_fa rfl (fa31_0 _ _)) rfl ?_)
    refine s_t (x_q (e_load rfl (ld1 ag9 hg1 q1)) rfl ?_)
    refine s_t (x_q (e_len rfl (lenStr un9)) rfl ?_)
    refine s_t (x_q (e_bin rfl rfl rfl) rfl ?_)
    refine s_t (x_q (e_bin rfl rfl rfl) rfl ?_)
    refine s_t (x_q (e_assign rfl) rfl ?_)
    refine s_nil ?_
    refine aw_seq (aw_seq (aw_reg ?_))
    refine s_t (x_q (e_assign rfl) rfl ?_)
    refine s_nil ?_
    generalize hel : (m.getD k default).els = els at *
    refine aw_block (aw_loop (α := Int × Nat) (fun p => ⟨tms [(0, .slice (some ⟨b1, o1, none⟩) m.length ca), (3, .int .i64 p.1), (4, .int .i64 (k : Int)), (5, .int .i64 (p.2 : Int))], hp, nx, []⟩) (fun p => p.2 ≤ els.length) (fun p => els.length - p.2) (_, 0) (Nat.zero_le _) (wk_tms (wk_cons rfl (wk_cons rfl (wk_cons rfl (wk_cons rfl wk_nil)))) sub_rfl (Nat.le_refl _)) ?_)
    rintro ⟨x2, j⟩ hj
    simp only at hj
    by_cases hlt2 : j < els.length
    · obtain ⟨b2, o2, c2, e2, fz2, ro2, hd2, rfl, hg2, hc2⟩ := he (by omega)
      obtain ⟨w, q3, hs⟩ := hc2 j hlt2
      obtain ⟨hly, _⟩ := hyy _ (getD_mem (d := []) hlt2)
      obtain ⟨bs, cs, rfl, hs⟩ := hs
      by_cases hx : x2 < 5000
      · refine aw_seq (aw_seq (aw_reg ?_))
        refine s_t (x_q (e_move rfl) rfl ?_)
        refine s_t (x_q (e_move rfl) rfl ?_)
        refine s_t (x_q (e_move rfl) rfl ?_)
        refine s_t (x_q (e_ia rfl rfl (iaSl un22 sz31 hlt)) rfl ?_)
        refine s_t (x_q (e_fa rfl (fa31_1 _ _)) rfl ?_)
        refine s_t (x_q (e_load rfl (ld1 ag29 hg1 q2)) rfl ?_)
        refine s_t (x_q (e_len rfl (lenSl un29)) rfl ?_)
        refine s_t (x_q (e_bin rfl rfl (dT (by omega))) rfl ?_)
        refine s_t (x_q (e_move rfl) rfl ?_)
        refine s_g rfl (x_q (e_move rfl) rfl ?_)
        refine s_g rfl (x_q (e_bin rfl rfl (dT hx)) rfl ?_)
        refine s_t (x_q (e_pickT rfl rfl rfl) rfl ?_)
        refine s_nil ?_
        refine (aw_ifT rfl (aw_skip ?_))
        refine aw_seq (aw_block ?_)
        refine aw_seq (aw_reg ?_)
        refine s_t (x_q (e_move rfl) rfl ?_)
        refine s_t (x_q (e_bin rfl rfl rfl) rfl ?_)
        refine s_t (x_q (e_assign rfl) rfl ?_)
        refine s_nil ?_
        refine aw_seq (aw_reg ?_)
        refine s_t (x_q (e_assign rfl) rfl ?_)
        refine s_nil ?_
        generalize hyl : els.getD j [] = y at *
        refine aw_block (aw_loop (α := Int × Nat) (fun p => ⟨tms [(0, .slice (some ⟨b1, o1, none⟩) m.length ca), (3, .int .i64 p.1), (4, .int .i64 (k : Int)), (5, .int .i64 (j : Int)), (6, .int .i64 (p.2 : Int))], hp, nx, []⟩) (fun p => p.2 ≤ y.length) (fun p => y.length - p.2) (_, 0) (Nat.zero_le _) (wk_tms (wk_cons rfl (wk_cons rfl (wk_cons rfl (wk_cons rfl (wk_cons rfl wk_nil))))) sub_rfl (Nat.le_refl _)) ?_)
        rintro ⟨x3, i⟩ hi
        simp only at hi
        by_cases hlt3 : i < y.length
        · obtain ⟨b3, o3, c3, e3, fz3, ro3, hd3, rfl, hg3, hc3⟩ := hs (by omega)
          obtain ⟨z, q4, rfl⟩ := hc3 i hlt3
          by_cases hx3 : x3 < 5000
          · refine aw_seq (aw_seq (aw_reg ?_))
            refine s_t (x_q (e_move rfl) rfl ?_)
            refine s_t (x_q (e_move rfl) rfl ?_)
            refine s_t (x_q (e_move rfl) rfl ?_)
            refine s_t (x_q (e_ia rfl rfl (iaSl un22 sz31 hlt)) rfl ?_)
            refine s_t (x_q (e_fa rfl (fa31_1 _ _)) rfl ?_)
            refine s_t (x_q (e_load rfl (ld1 ag29 hg1 q2)) rfl ?_)
            refine s_t (x_q (e_move rfl) rfl ?_)
            refine s_t (x_q (e_ia rfl rfl (iaSl un29 sz28 hlt2)) rfl ?_)
            refine s_t (x_q (e_load rfl (ld1 ag28 hg2 q3)) rfl ?_)
            refine s_t (x_q (e_len rfl (lenSl un28)) rfl ?_)
            refine s_t (x_q (e_bin rfl rfl (dT (by omega))) rfl ?_)
            refine s_t (x_q (e_move rfl) rfl ?_)
            refine s_g rfl (x_q (e_move rfl) rfl ?_)
            refine s_g rfl (x_q (e_bin rfl rfl (dT hx3)) rfl ?_)
            refine s_t (x_q (e_pickT rfl rfl rfl) rfl ?_)
            refine s_nil ?_
            refine (aw_ifT rfl (aw_skip ?_))
            refine aw_seq (aw_block ?_)
            refine aw_reg ?_
            refine s_t (x_q (e_move rfl) rfl ?_)
            refine s_t (x_q (e_move rfl) rfl ?_)
            refine s_t (x_q (e_move rfl) rfl ?_)
            refine s_t (x_q (e_ia rfl rfl (iaSl un22 sz31 hlt)) rfl ?_)
            refine s_t (x_q (e_fa rfl (fa31_1 _ _)) rfl ?_)
            refine s_t (x_q (e_load rfl (ld1 ag29 hg1 q2)) rfl ?_)
            refine s_t (x_q (e_move rfl) rfl ?_)
            refine s_t (x_q (e_ia rfl rfl (iaSl un29 sz28 hlt2)) rfl ?_)
            refine s_t (x_q (e_load rfl (ld1 ag28 hg2 q3)) rfl ?_)
            refine s_t (x_q (e_move rfl) rfl ?_)
            refine s_t (x_q (e_ia rfl rfl (iaSl un28 sz9 hlt3)) rfl ?_)
            refine s_t (x_q (e_load rfl (ld1 ag9 hg3 q4)) rfl ?_)
            refine s_t (x_q (e_len rfl (lenStr un9)) rfl ?_)
            refine s_t (x_q (e_bin rfl rfl rfl) rfl ?_)
            refine s_t (x_q (e_bin rfl rfl rfl) rfl ?_)
            refine s_t (x_q (e_assign rfl) rfl ?_)
            refine s_nil ?_
            refine aw_reg ?_
            refine s_t (x_q (e_move rfl) rfl ?_)
            refine s_t (x_q (e_bin rfl rfl (b_addN _ 1 (by omega))) rfl ?_)
            refine s_t (x_q (e_assign rfl) rfl ?_)
            refine s_nil ?_
            exact ⟨(_, i + 1), by simp only; omega, by simp only; omega, wk_tms (wk_cons rfl (wk_cons rfl (wk_cons rfl (wk_cons rfl (wk_cons rfl wk_nil))))) sub_rfl (Nat.le_refl _)⟩
          · refine aw_seq (aw_seq (aw_reg ?_))
            refine s_t (x_q (e_move rfl) rfl ?_)
            refine s_t (x_q (e_move rfl) rfl ?_)
            refine s_t (x_q (e_move rfl) rfl ?_)
            refine s_t (x_q (e_ia rfl rfl (iaSl un22 sz31 hlt)) rfl ?_)
            refine s_t (x_q (e_fa rfl (fa31_1 _ _)) rfl ?_)
            refine s_t (x_q (e_load rfl (ld1 ag29 hg1 q2)) rfl ?_)
            refine s_t (x_q (e_move rfl) rfl ?_)
            refine s_t (x_q (e_ia rfl rfl (iaSl un29 sz28 hlt2)) rfl ?_)
            refine s_t (x_q (e_load rfl (ld1 ag28 hg2 q3)) rfl ?_)
            refine s_t (x_q (e_len rfl (lenSl un28)) rfl ?_)
            refine s_t (x_q (e_bin rfl rfl (dT (by omega))) rfl ?_)
            refine s_t (x_q (e_move rfl) rfl ?_)
            refine s_g rfl (x_q (e_move rfl) rfl ?_)
            refine s_g rfl (x_q (e_bin rfl rfl (dF hx3)) rfl ?_)
            refine s_t (x_q (e_pickT rfl rfl rfl) rfl ?_)
            refine s_nil ?_
            refine (aw_ifF rfl (aw_exit ?_))
            refine aw_reg ?_
            refine s_t (x_q (e_move rfl) rfl ?_)
            refine s_t (x_q (e_bin rfl rfl (b_addN _ 1 (by omega))) rfl ?_)
            refine s_t (x_q (e_assign rfl) rfl ?_)
            refine s_nil ?_
            exact ⟨(_, j + 1), by simp only; omega, by simp only; omega, wk_tms (wk_cons rfl (wk_cons rfl (wk_cons rfl (wk_cons rfl wk_nil)))) sub_rfl (Nat.le_refl _)⟩
        · refine aw_seq (aw_seq (aw_reg ?_))
          refine s_t (x_q (e_move rfl) rfl ?_)
          refine s_t (x_q (e_move rfl) rfl ?_)
          refine s_t (x_q (e_move rfl) rfl ?_)
          refine s_t (x_q (e_ia rfl rfl (iaSl un22 sz31 hlt)) rfl ?_)
          refine s_t (x_q (e_fa rfl (fa31_1 _ _)) rfl ?_)
          refine s_t (x_q (e_load rfl (ld1 ag29 hg1 q2)) rfl ?_)
          refine s_t (x_q (e_move rfl) rfl ?_)
          refine s_t (x_q (e_ia rfl rfl (iaSl un29 sz28 hlt2)) rfl ?_)
          refine s_t (x_q (e_load rfl (ld1 ag28 hg2 q3)) rfl ?_)
          refine s_t (x_q (e_len rfl (lenSl un28)) rfl ?_)
          refine s_t (x_q (e_bin rfl rfl (dF (by omega))) rfl ?_)
          refine s_t (x_q (e_move rfl) rfl ?_)
          refine s_n rfl rfl ?_
          refine s_n rfl rfl ?_
          refine s_t (x_q (e_pickF rfl rfl rfl) rfl ?_)
          refine s_nil ?_
          refine (aw_ifF rfl (aw_exit ?_))
          refine aw_reg ?_
          refine s_t (x_q (e_move rfl) rfl ?_)
          refine s_t (x_q (e_bin rfl rfl (b_addN _ 1 (by omega))) rfl ?_)
          refine s_t (x_q (e_assign rfl) rfl ?_)
          refine s_nil ?_
          exact ⟨(_, j + 1), by simp only; omega, by simp only; omega, wk_tms (wk_cons rfl (wk_cons rfl (wk_cons rfl (wk_cons rfl wk_nil)))) sub_rfl (Nat.le_refl _)⟩
      · refine aw_seq (aw_seq (aw_reg ?_))
        refine s_t (x_q (e_move rfl) rfl ?_)
        refine s_t (x_q (e_move rfl) rfl ?_)
        refine s_t (x_q (e_move rfl) rfl ?_)
        refine s_t (x_q (e_ia rfl rfl (iaSl un22 sz31 hlt)) rfl ?_)
        refine s_t (x_q (e_fa rfl (fa31_1 _ _)) rfl ?_)
        refine s_t (x_q (e_load rfl (ld1 ag29 hg1 q2)) rfl ?_)
        refine s_t (x_q (e_len rfl (lenSl un29)) rfl ?_)
        refine s_t (x_q (e_bin rfl rfl (dT (by omega))) rfl ?_)
        refine s_t (x_q (e_move rfl) rfl ?_)
        refine s_g rfl (x_q (e_move rfl) rfl ?_)
        refine s_g rfl (x_q (e_bin rfl rfl (dF hx)) rfl ?_)
        refine s_t (x_q (e_pickT rfl rfl rfl) rfl ?_)
        refine s_nil ?_
        refine (aw_ifF rfl (aw_exit ?_))
        refine aw_seq (aw_reg ?_)
        refine s_t (x_q (e_move rfl) rfl ?_)
        refine s_t (x_q (e_bin rfl rfl (dT (by omega))) rfl ?_)
        refine s_nil ?_
        refine (aw_ifT rfl ?_)
        refine aw_seq (aw_reg ?_)
        refine s_t (x_q (e_assign rfl) rfl ?_)
        refine s_nil ?_
        exact aw_ret (fn_ret rfl ⟨_, rfl, rfl, rfl⟩)
    · by_cases hx : x2 ≥ 5000
      · refine aw_seq (aw_seq (aw_reg ?_))
        refine s_t (x_q (e_move rfl) rfl ?_)
        refine s_t (x_q (e_move rfl) rfl ?_)
        refine s_t (x_q (e_move rfl) rfl ?_)
        refine s_t (x_q (e_ia rfl rfl (iaSl un22 sz31 hlt)) rfl ?_)
        refine s_t (x_q (e_fa rfl (fa31_1 _ _)) rfl ?_)
        refine s_t (x_q (e_load rfl (ld1 ag29 hg1 q2)) rfl ?_)
        refine s_t (x_q (e_len rfl (lenSl un29)) rfl ?_)
        refine s_t (x_q (e_bin rfl rfl (dF (by omega))) rfl ?_)
        refine s_t (x_q (e_move rfl) rfl ?_)
        refine s_n rfl rfl ?_
        refine s_n rfl rfl ?_
        refine s_t (x_q (e_pickF rfl rfl rfl) rfl ?_)
        refine s_nil ?_
        refine (aw_ifF rfl (aw_exit ?_))
        refine aw_seq (aw_reg ?_)
        refine s_t (x_q (e_move rfl) rfl ?_)
        refine s_t (x_q (e_bin rfl rfl (dT hx)) rfl ?_)
        refine s_nil ?_
        refine (aw_ifT rfl ?_)
        refine aw_seq (aw_reg ?_)
        refine s_t (x_q (e_assign rfl) rfl ?_)
        refine s_nil ?_
        exact aw_ret (fn_ret rfl ⟨_, rfl, rfl, rfl⟩)
      · refine aw_seq (aw_seq (aw_reg ?_))
        refine s_t (x_q (e_move rfl) rfl ?_)
        refine s_t (x_q (e_move rfl) rfl ?_)
        refine s_t (x_q (e_move rfl) rfl ?_)
        refine s_t (x_q (e_ia rfl rfl (iaSl un22 sz31 hlt)) rfl ?_)
        refine s_t (x_q (e_fa rfl (fa31_1 _ _)) rfl ?_)
        refine s_t (x_q (e_load rfl (ld1 ag29 hg1 q2)) rfl ?_)
        refine s_t (x_q (e_len rfl (lenSl un29)) rfl ?_)
        refine s_t (x_q (e_bin rfl rfl (dF (by omega))) rfl ?_)
        refine s_t (x_q (e_move rfl) rfl ?_)
        refine s_n rfl rfl ?_
        refine s_n rfl rfl ?_
        refine s_t (x_q (e_pickF rfl rfl rfl) rfl ?_)
        refine s_nil ?_
        refine (aw_ifF rfl (aw_exit ?_))
        refine aw_seq (aw_reg ?_)
        refine s_t (x_q (e_move rfl) rfl ?_)
        refine s_t (x_q (e_bin rfl rfl (dF hx)) rfl ?_)
        refine s_nil ?_
        refine (aw_ifF rfl (aw_skip ?_))
        refine aw_reg ?_
        refine s_t (x_q (e_move rfl) rfl ?_)
        refine s_t (x_q (e_bin rfl rfl (b_addN _ 1 (by omega))) rfl ?_)
        refine s_t (x_q (e_assign rfl) rfl ?_)
        refine s_nil ?_
        exact ⟨(_, k + 1), by simp only; omega, by simp only; omega, wk_tms (wk_cons rfl (wk_cons rfl (wk_cons rfl wk_nil))) sub_rfl (Nat.le_refl _)⟩
  · refine aw_seq (aw_seq (aw_reg ?_))
    refine s_t (x_q (e_move rfl) rfl ?_)
    refine s_t (x_q (e_move rfl) rfl ?_)
    refine s_t (x_q (e_len rfl (lenSl un22)) rfl ?_)
    refine s_t (x_q (e_bin rfl rfl (dF (by omega))) rfl ?_)
    refine s_nil ?_
    refine (aw_ifF rfl (aw_exit ?_))
    refine aw_seq (aw_reg ?_)
    refine s_t (x_q (e_assign rfl) rfl ?_)
    refine s_nil ?_
    exact aw_ret (fn_ret rfl ⟨_, rfl, rfl, rfl⟩)
end Go.Proofs.YtkjkoejnicbieaaGreat.AM

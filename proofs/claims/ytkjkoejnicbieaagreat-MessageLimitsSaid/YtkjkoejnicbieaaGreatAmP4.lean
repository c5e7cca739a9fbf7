/-
  The message's functions, walked: 'messages'; the reference's 'Tag', 'sign', 'Segment'.
-/
import Derived.Test.YtkjkoejnicbieaaGreatAmP3
namespace Go.Proofs.YtkjkoejnicbieaaGreat.AM
open Go Go.RowKit

theorem seg_ext {a b : Seg} (h1 : a.tag = b.tag) (h2 : a.els = b.els) : a = b := by cases a; cases b; simp_all

set_option maxHeartbeats 1000000 in
theorem messages_c {hp : Tr AObj} {nx : Nat} {va vb : Value} {a b : List Seg} (ha : RdMsg hp va a) (hb : RdMsg hp vb b) (hfa : Fits a) (hfb : Fits b) {r : Bool} (hr : r = true ↔ a = b) :
    ACall Tryz.prog 0 12 [va, vb] hp nx (fun v hp' nx' => v = .bool r ∧ hp' = hp ∧ nx' = nx) := by
  obtain ⟨hla, hfa⟩ := hfa
  obtain ⟨hlb, hfb⟩ := hfb
  unfold BIG at hla hlb
  obtain ⟨ba, ca, rfl, ha⟩ := ha
  obtain ⟨bb, cb, rfl, hb⟩ := hb
  refine acall_fn named7 Tryz.func12 rfl rfl ?_
  show AW _ _ _ _ ⟨tms [(1, .slice bb b.length cb), (0, .slice ba a.length ca)], hp, nx, []⟩ _
  have hF : ¬ a = b → r = false := fun h => by cases r with | false => rfl | true => exact absurd (hr.1 rfl) h
  by_cases hne : a.length = b.length
  · refine aw_seq (aw_reg ?_)
    refine s_t (x_q (e_assign rfl) rfl ?_)
    refine s_nil ?_
    refine aw_seq (aw_seq (aw_reg ?_))
    refine s_t (x_q (e_move rfl) rfl ?_)
    refine s_t (x_q (e_len rfl (lenSl un22)) rfl ?_)
    refine s_t (x_q (e_move rfl) rfl ?_)
    refine s_t (x_q (e_len rfl (lenSl un22)) rfl ?_)
    refine s_t (x_q (e_bin rfl rfl (nF (by omega))) rfl ?_)
    refine s_nil ?_
    refine (aw_ifF rfl (aw_skip ?_))
    refine aw_seq (aw_seq (aw_reg ?_))
    refine s_t (x_q (e_assign rfl) rfl ?_)
    refine s_nil ?_
    refine aw_block (aw_loop (α := Nat) (fun k => ⟨tms [(0, .slice ba a.length ca), (1, .slice bb b.length cb), (5, .int .i64 (k : Int))], hp, nx, []⟩) (fun k => k ≤ a.length ∧ ∀ i, i < k → a.getD i default = b.getD i default) (fun k => a.length - k) 0 ⟨Nat.zero_le _, fun i h => by omega⟩ (wk_tms (wk_cons rfl (wk_cons rfl (wk_cons rfl wk_nil))) sub_rfl (Nat.le_refl _)) ?_)
    intro k ⟨hk, hall⟩
    by_cases hlt : k < a.length
    · obtain ⟨b1, o1, c1, e1, fz1, ro1, hd1, rfl, hg1, hc1⟩ := ha (by omega)
      obtain ⟨b2, o2, c2, e2, fz2, ro2, hd2, rfl, hg2, hc2⟩ := hb (by omega)
      obtain ⟨q1, u1, p1, he1⟩ := hc1 k hlt
      obtain ⟨q2, u2, p2, he2⟩ := hc2 k (by omega)
      obtain ⟨_, hl1, hy1⟩ := hfa _ (getD_mem (d := default) hlt)
      obtain ⟨_, hl2, hy2⟩ := hfb _ (getD_mem (d := default) (show k < b.length by omega))
      unfold BIG at hl1 hl2
      obtain ⟨be1, ce1, rfl, hx1⟩ := he1
      obtain ⟨be2, ce2, rfl, hx2⟩ := he2
      have hdif : ¬ a.getD k default = b.getD k default → r = false := fun h => hF fun e => h (by rw [e])
      refine aw_seq (aw_seq (aw_reg ?_))
      refine s_t (x_q (e_move rfl) rfl ?_)
      refine s_t (x_q (e_move rfl) rfl ?_)
      refine s_t (x_q (e_len rfl (lenSl un22)) rfl ?_)
      refine s_t (x_q (e_bin rfl rfl (dT (by omega))) rfl ?_)
      refine s_nil ?_
      refine (aw_ifT rfl (aw_skip ?_))
      refine aw_seq (aw_block ?_)
      by_cases hs : (a.getD k default).tag = (b.getD k default).tag
      · by_cases hl : (a.getD k default).els.length = (b.getD k default).els.length
        · refine aw_seq (aw_seq (aw_any mixed7 [(0, true), (1, true), (2, true), (3, true), (5, true), (6, true), (7, true), (8, true), (4, true), (9, true), (10, true), (11, true), (12, true), (13, true), (14, true), (15, true), (18, true), (19, true), (20, true), (21, true), (16, true), (17, true), (22, true), (23, true), (24, true), (25, true)] (by kernel_rfl) (by kernel_rfl) (by kernel_rfl) ?_))
          refine a_q rfl (e_move rfl) rfl ?_
          refine a_q rfl (e_move rfl) rfl ?_
          refine a_q rfl (e_ia rfl rfl (iaSl un22 sz31 hlt)) rfl ?_
          refine a_q rfl (e_fa rfl (fa31_0 _ _)) rfl ?_
          refine a_q rfl (e_move rfl) rfl ?_
          refine a_q rfl (e_move rfl) rfl ?_
          refine a_q rfl (e_ia rfl rfl (iaSl un22 sz31 (by omega))) rfl ?_
          refine a_q rfl (e_fa rfl (fa31_0 _ _)) rfl ?_
          refine a_q rfl (e_load rfl (ld1 ag9 hg1 q1)) rfl ?_
          refine a_q rfl (e_load rfl (ld1 ag9 hg2 q2)) rfl ?_
          refine a_q rfl (e_bin rfl rfl (sF hs)) rfl ?_
          refine a_q rfl (e_move rfl) rfl ?_
          refine a_qg rfl rfl (e_move rfl) rfl ?_
          refine a_qg rfl rfl (e_move rfl) rfl ?_
          refine a_qg rfl rfl (e_ia rfl rfl (iaSl un22 sz31 hlt)) rfl ?_
          refine a_qg rfl rfl (e_fa rfl (fa31_1 _ _)) rfl ?_
          refine a_qg rfl rfl (e_move rfl) rfl ?_
          refine a_qg rfl rfl (e_move rfl) rfl ?_
          refine a_qg rfl rfl (e_ia rfl rfl (iaSl un22 sz31 (by omega))) rfl ?_
          refine a_qg rfl rfl (e_fa rfl (fa31_1 _ _)) rfl ?_
          refine a_qg rfl rfl (e_load rfl (ld1 ag29 hg1 p1)) rfl ?_
          refine a_qg rfl rfl (e_len rfl (lenSl un29)) rfl ?_
          refine a_qg rfl rfl (e_load rfl (ld1 ag29 hg2 p2)) rfl ?_
          refine a_qg rfl rfl (e_len rfl (lenSl un29)) rfl ?_
          refine a_qg rfl rfl (e_bin rfl rfl (nF (by omega))) rfl ?_
          refine a_q rfl (e_pickF rfl rfl rfl) rfl ?_
          refine (aw_ifF rfl (aw_skip ?_))
          refine aw_seq (aw_reg ?_)
          refine s_t (x_q (e_assign rfl) rfl ?_)
          refine s_nil ?_
          generalize hea : (a.getD k default).els = ea at *
          generalize heb : (b.getD k default).els = eb at *
          refine aw_block (aw_loop (α := Nat) (fun j => ⟨tms [(0, .slice (some ⟨b1, o1, none⟩) a.length ca), (1, .slice (some ⟨b2, o2, none⟩) b.length cb), (5, .int .i64 (k : Int)), (6, .int .i64 (j : Int))], hp, nx, []⟩) (fun j => j ≤ ea.length ∧ ∀ i, i < j → ea.getD i [] = eb.getD i []) (fun j => ea.length - j) 0 ⟨Nat.zero_le _, fun i h => by omega⟩ (wk_tms (wk_cons rfl (wk_cons rfl (wk_cons rfl (wk_cons rfl wk_nil)))) sub_rfl (Nat.le_refl _)) ?_)
          intro j ⟨hj, hallj⟩
          by_cases hltj : j < ea.length
          · obtain ⟨b3, o3, c3, e3, fz3, ro3, hd3, rfl, hg3, hc3⟩ := hx1 (by omega)
            obtain ⟨b4, o4, c4, e4, fz4, ro4, hd4, rfl, hg4, hc4⟩ := hx2 (by omega)
            obtain ⟨w1, s1, hs1⟩ := hc3 j hltj
            obtain ⟨w2, s2, hs2⟩ := hc4 j (by omega)
            obtain ⟨hy3, _⟩ := hy1 _ (getD_mem (d := []) hltj)
            obtain ⟨hy4, _⟩ := hy2 _ (getD_mem (d := []) (show j < eb.length by omega))
            refine aw_seq (aw_seq (aw_reg ?_))
            refine s_t (x_q (e_move rfl) rfl ?_)
            refine s_t (x_q (e_move rfl) rfl ?_)
            refine s_t (x_q (e_move rfl) rfl ?_)
            refine s_t (x_q (e_ia rfl rfl (iaSl un22 sz31 hlt)) rfl ?_)
            refine s_t (x_q (e_fa rfl (fa31_1 _ _)) rfl ?_)
            refine s_t (x_q (e_load rfl (ld1 ag29 hg1 p1)) rfl ?_)
            refine s_t (x_q (e_len rfl (lenSl un29)) rfl ?_)
            refine s_t (x_q (e_bin rfl rfl (dT (by omega))) rfl ?_)
            refine s_nil ?_
            refine (aw_ifT rfl (aw_skip ?_))
            refine aw_seq (aw_block ?_)
            by_cases heq : ea.getD j [] = eb.getD j []
            · refine aw_seq (aw_any mixed7 [(0, true), (1, true), (2, true), (3, true), (5, true), (8, true), (9, true), (10, true), (11, true), (13, true), (4, true), (6, true), (7, true), (12, true), (14, true), (15, true), (16, false), (17, true)] (by kernel_rfl) (by kernel_rfl) (by kernel_rfl) ?_)
              refine a_q rfl (e_move rfl) rfl ?_
              refine a_q rfl (e_move rfl) rfl ?_
              refine a_q rfl (e_ia rfl rfl (iaSl un22 sz31 hlt)) rfl ?_
              refine a_q rfl (e_fa rfl (fa31_1 _ _)) rfl ?_
              refine a_q rfl (e_move rfl) rfl ?_
              refine a_q rfl (e_move rfl) rfl ?_
              refine a_q rfl (e_move rfl) rfl ?_
              refine a_q rfl (e_ia rfl rfl (iaSl un22 sz31 (by omega))) rfl ?_
              refine a_q rfl (e_fa rfl (fa31_1 _ _)) rfl ?_
              refine a_q rfl (e_move rfl) rfl ?_
              refine a_q rfl (e_load rfl (ld1 ag29 hg1 p1)) rfl ?_
              refine a_q rfl (e_ia rfl rfl (iaSl un29 sz28 hltj)) rfl ?_
              refine a_q rfl (e_load rfl (ld1 ag28 hg3 s1)) rfl ?_
              refine a_q rfl (e_load rfl (ld1 ag29 hg2 p2)) rfl ?_
              refine a_q rfl (e_ia rfl rfl (iaSl un29 sz28 (by omega))) rfl ?_
              refine a_q rfl (e_load rfl (ld1 ag28 hg4 s2)) rfl ?_
              refine a_r rfl (x_pure rfl rfl rfl (texts_c hs1 hs2 hy3 hy4 (r := true) ⟨fun _ => heq, fun _ => rfl⟩) ?_)
              refine a_q rfl (e_un rfl rfl) rfl ?_
              refine (aw_ifF rfl (aw_skip ?_))
              refine aw_reg ?_
              refine s_t (x_q (e_move rfl) rfl ?_)
              refine s_t (x_q (e_bin rfl rfl (b_addN _ 1 (by omega))) rfl ?_)
              refine s_t (x_q (e_assign rfl) rfl ?_)
              refine s_nil ?_
              refine ⟨j + 1, ⟨by omega, fun i hi => ?_⟩, by omega, wk_tms (wk_cons rfl (wk_cons rfl (wk_cons rfl (wk_cons rfl wk_nil)))) sub_rfl (Nat.le_refl _)⟩
              by_cases e : i = j
              · rw [e]; exact heq
              · exact hallj i (by omega)
            · refine aw_seq (aw_any mixed7 [(0, true), (1, true), (2, true), (3, true), (5, true), (8, true), (9, true), (10, true), (11, true), (13, true), (4, true), (6, true), (7, true), (12, true), (14, true), (15, true), (16, false), (17, true)] (by kernel_rfl) (by kernel_rfl) (by kernel_rfl) ?_)
              refine a_q rfl (e_move rfl) rfl ?_
              refine a_q rfl (e_move rfl) rfl ?_
              refine a_q rfl (e_ia rfl rfl (iaSl un22 sz31 hlt)) rfl ?_
              refine a_q rfl (e_fa rfl (fa31_1 _ _)) rfl ?_
              refine a_q rfl (e_move rfl) rfl ?_
              refine a_q rfl (e_move rfl) rfl ?_
              refine a_q rfl (e_move rfl) rfl ?_
              refine a_q rfl (e_ia rfl rfl (iaSl un22 sz31 (by omega))) rfl ?_
              refine a_q rfl (e_fa rfl (fa31_1 _ _)) rfl ?_
              refine a_q rfl (e_move rfl) rfl ?_
              refine a_q rfl (e_load rfl (ld1 ag29 hg1 p1)) rfl ?_
              refine a_q rfl (e_ia rfl rfl (iaSl un29 sz28 hltj)) rfl ?_
              refine a_q rfl (e_load rfl (ld1 ag28 hg3 s1)) rfl ?_
              refine a_q rfl (e_load rfl (ld1 ag29 hg2 p2)) rfl ?_
              refine a_q rfl (e_ia rfl rfl (iaSl un29 sz28 (by omega))) rfl ?_
              refine a_q rfl (e_load rfl (ld1 ag28 hg4 s2)) rfl ?_
              refine a_r rfl (x_pure rfl rfl rfl (texts_c hs1 hs2 hy3 hy4 (r := false) ⟨fun h => (by cases h), fun h => absurd h heq⟩) ?_)
              refine a_q rfl (e_un rfl rfl) rfl ?_
              refine (aw_ifT rfl ?_)
              refine aw_seq (aw_reg ?_)
              refine s_t (x_q (e_assign rfl) rfl ?_)
              refine s_nil ?_
              exact aw_ret (fn_ret rfl ⟨by rw [hdif fun h => heq (by rw [← hea, ← heb, h])]; rfl, rfl, rfl⟩)
          · refine aw_seq (aw_seq (aw_reg ?_))
            refine s_t (x_q (e_move rfl) rfl ?_)
            refine s_t (x_q (e_move rfl) rfl ?_)
            refine s_t (x_q (e_move rfl) rfl ?_)
            refine s_t (x_q (e_ia rfl rfl (iaSl un22 sz31 hlt)) rfl ?_)
            refine s_t (x_q (e_fa rfl (fa31_1 _ _)) rfl ?_)
            refine s_t (x_q (e_load rfl (ld1 ag29 hg1 p1)) rfl ?_)
            refine s_t (x_q (e_len rfl (lenSl un29)) rfl ?_)
            refine s_t (x_q (e_bin rfl rfl (dF (by omega))) rfl ?_)
            refine s_nil ?_
            refine (aw_ifF rfl (aw_exit ?_))
            refine aw_reg ?_
            refine s_t (x_q (e_move rfl) rfl ?_)
            refine s_t (x_q (e_bin rfl rfl (b_addN _ 1 (by omega))) rfl ?_)
            refine s_t (x_q (e_assign rfl) rfl ?_)
            refine s_nil ?_
            refine ⟨k + 1, ⟨by omega, fun i hi => ?_⟩, by omega, wk_tms (wk_cons rfl (wk_cons rfl (wk_cons rfl wk_nil))) sub_rfl (Nat.le_refl _)⟩
            by_cases e : i = k
            · rw [e]
              exact seg_ext hs (by rw [hea, heb]; exact ext_take hl fun i hi => hallj i (by omega))
            · exact hall i (by omega)
        · refine aw_seq (aw_seq (aw_any mixed7 [(0, true), (1, true), (2, true), (3, true), (5, true), (6, true), (7, true), (8, true), (4, true), (9, true), (10, true), (11, true), (12, true), (13, true), (14, true), (15, true), (18, true), (19, true), (20, true), (21, true), (16, true), (17, true), (22, true), (23, true), (24, true), (25, true)] (by kernel_rfl) (by kernel_rfl) (by kernel_rfl) ?_))
          refine a_q rfl (e_move rfl) rfl ?_
          refine a_q rfl (e_move rfl) rfl ?_
          refine a_q rfl (e_ia rfl rfl (iaSl un22 sz31 hlt)) rfl ?_
          refine a_q rfl (e_fa rfl (fa31_0 _ _)) rfl ?_
          refine a_q rfl (e_move rfl) rfl ?_
          refine a_q rfl (e_move rfl) rfl ?_
          refine a_q rfl (e_ia rfl rfl (iaSl un22 sz31 (by omega))) rfl ?_
          refine a_q rfl (e_fa rfl (fa31_0 _ _)) rfl ?_
          refine a_q rfl (e_load rfl (ld1 ag9 hg1 q1)) rfl ?_
          refine a_q rfl (e_load rfl (ld1 ag9 hg2 q2)) rfl ?_
          refine a_q rfl (e_bin rfl rfl (sF hs)) rfl ?_
          refine a_q rfl (e_move rfl) rfl ?_
          refine a_qg rfl rfl (e_move rfl) rfl ?_
          refine a_qg rfl rfl (e_move rfl) rfl ?_
          refine a_qg rfl rfl (e_ia rfl rfl (iaSl un22 sz31 hlt)) rfl ?_
          refine a_qg rfl rfl (e_fa rfl (fa31_1 _ _)) rfl ?_
          refine a_qg rfl rfl (e_move rfl) rfl ?_
          refine a_qg rfl rfl (e_move rfl) rfl ?_
          refine a_qg rfl rfl (e_ia rfl rfl (iaSl un22 sz31 (by omega))) rfl ?_
          refine a_qg rfl rfl (e_fa rfl (fa31_1 _ _)) rfl ?_
          refine a_qg rfl rfl (e_load rfl (ld1 ag29 hg1 p1)) rfl ?_
          refine a_qg rfl rfl (e_len rfl (lenSl un29)) rfl ?_
          refine a_qg rfl rfl (e_load rfl (ld1 ag29 hg2 p2)) rfl ?_
          refine a_qg rfl rfl (e_len rfl (lenSl un29)) rfl ?_
          refine a_qg rfl rfl (e_bin rfl rfl (nT (by omega))) rfl ?_
          refine a_q rfl (e_pickF rfl rfl rfl) rfl ?_
          refine (aw_ifT rfl ?_)
          refine aw_seq (aw_reg ?_)
          refine s_t (x_q (e_assign rfl) rfl ?_)
          refine s_nil ?_
          exact aw_ret (fn_ret rfl ⟨by rw [hdif fun h => hl (by rw [h])]; rfl, rfl, rfl⟩)
      · refine aw_seq (aw_seq (aw_any mixed7 [(0, true), (1, true), (2, true), (3, true), (5, true), (6, true), (7, true), (8, true), (4, true), (9, true), (10, true), (11, true), (12, true), (13, true), (14, true), (15, true), (18, true), (19, true), (20, true), (21, true), (16, true), (17, true), (22, true), (23, true), (24, true), (25, true)] (by kernel_rfl) (by kernel_rfl) (by kernel_rfl) ?_))
        refine a_q rfl (e_move rfl) rfl ?_
        refine a_q rfl (e_move rfl) rfl ?_
        refine a_q rfl (e_ia rfl rfl (iaSl un22 sz31 hlt)) rfl ?_
        refine a_q rfl (e_fa rfl (fa31_0 _ _)) rfl ?_
        refine a_q rfl (e_move rfl) rfl ?_
        refine a_q rfl (e_move rfl) rfl ?_
        refine a_q rfl (e_ia rfl rfl (iaSl un22 sz31 (by omega))) rfl ?_
        refine a_q rfl (e_fa rfl (fa31_0 _ _)) rfl ?_
        refine a_q rfl (e_load rfl (ld1 ag9 hg1 q1)) rfl ?_
        refine a_q rfl (e_load rfl (ld1 ag9 hg2 q2)) rfl ?_
        refine a_q rfl (e_bin rfl rfl (sT hs)) rfl ?_
        refine a_q rfl (e_move rfl) rfl ?_
        refine a_qn rfl rfl rfl rfl ?_
        refine a_qn rfl rfl rfl rfl ?_
        refine a_qn rfl rfl rfl rfl ?_
        refine a_qn rfl rfl rfl rfl ?_
        refine a_qn rfl rfl rfl rfl ?_
        refine a_qn rfl rfl rfl rfl ?_
        refine a_qn rfl rfl rfl rfl ?_
        refine a_qn rfl rfl rfl rfl ?_
        refine a_qn rfl rfl rfl rfl ?_
        refine a_qn rfl rfl rfl rfl ?_
        refine a_qn rfl rfl rfl rfl ?_
        refine a_qn rfl rfl rfl rfl ?_
        refine a_qn rfl rfl rfl rfl ?_
        refine a_q rfl (e_pickT rfl rfl rfl) rfl ?_
        refine (aw_ifT rfl ?_)
        refine aw_seq (aw_reg ?_)
        refine s_t (x_q (e_assign rfl) rfl ?_)
        refine s_nil ?_
        exact aw_ret (fn_ret rfl ⟨by rw [hdif fun h => hs (by rw [h])]; rfl, rfl, rfl⟩)
    · refine aw_seq (aw_seq (aw_reg ?_))
      refine s_t (x_q (e_move rfl) rfl ?_)
      refine s_t (x_q (e_move rfl) rfl ?_)
      refine s_t (x_q (e_len rfl (lenSl un22)) rfl ?_)
      refine s_t (x_q (e_bin rfl rfl (dF (by omega))) rfl ?_)
      refine s_nil ?_
      refine (aw_ifF rfl (aw_exit ?_))
      refine aw_seq (aw_reg ?_)
      refine s_t (x_q (e_assign rfl) rfl ?_)
      refine s_nil ?_
      exact aw_ret (fn_ret rfl ⟨by rw [hr.2 (ext_take hne fun i hi => hall i (by omega))]; rfl, rfl, rfl⟩)
  · refine aw_seq (aw_reg ?_)
    refine s_t (x_q (e_assign rfl) rfl ?_)
    refine s_nil ?_
    refine aw_seq (aw_seq (aw_reg ?_))
    refine s_t (x_q (e_move rfl) rfl ?_)
    refine s_t (x_q (e_len rfl (lenSl un22)) rfl ?_)
    refine s_t (x_q (e_move rfl) rfl ?_)
    refine s_t (x_q (e_len rfl (lenSl un22)) rfl ?_)
    refine s_t (x_q (e_bin rfl rfl (nT (by omega))) rfl ?_)
    refine s_nil ?_
    refine (aw_ifT rfl ?_)
    refine aw_seq (aw_reg ?_)
    refine s_t (x_q (e_assign rfl) rfl ?_)
    refine s_nil ?_
    exact aw_ret (fn_ret rfl ⟨by rw [hF fun h => hne (by rw [h])]; rfl, rfl, rfl⟩)

theorem rtag_c {hp : Tr AObj} {nx : Nat} {s : ByteArray} {b : Bool} (hb : isTag s.data.toList = b) :
    ACall Tryz.prog 0 44 [.string s] hp nx (fun v hp' nx' => v = .bool b ∧ hp' = hp ∧ nx' = nx) := by
  refine acall_fn named7 Tryz.func44 rfl rfl ?_
  show AW _ _ _ _ ⟨tms [(0, .string s)], hp, nx, []⟩ _
  have hsz := size_list s
  by_cases hlo : s.size < 2
  · refine aw_seq (aw_reg ?_)
    refine s_t (x_q (e_assign rfl) rfl ?_)
    refine s_nil ?_
    refine aw_seq (aw_seq (aw_reg ?_))
    refine s_t (x_q (e_move rfl) rfl ?_)
    refine s_t (x_q (e_len rfl (lenStr un9)) rfl ?_)
    refine s_t (x_q (e_bin rfl rfl (dT (by omega))) rfl ?_)
    refine s_t (x_q (e_move rfl) rfl ?_)
    refine s_n rfl rfl ?_
    refine s_n rfl rfl ?_
    refine s_n rfl rfl ?_
    refine s_t (x_q (e_pickT rfl rfl rfl) rfl ?_)
    refine s_nil ?_
    refine (aw_ifT rfl ?_)
    refine aw_seq (aw_reg ?_)
    refine s_t (x_q (e_assign rfl) rfl ?_)
    refine s_nil ?_
    refine aw_ret (fn_ret rfl ⟨congrArg Value.bool ?_, rfl, rfl⟩)
    rw [← hb]; unfold isTag; rw [hsz]
    have h1 : (s.size == 2) = false := by rw [beq_eq_false_iff_ne]; omega
    have h2 : (s.size == 3) = false := by rw [beq_eq_false_iff_ne]; omega
    rw [h1, h2]; rfl
  by_cases hhi : 3 < s.size
  · refine aw_seq (aw_reg ?_)
    refine s_t (x_q (e_assign rfl) rfl ?_)
    refine s_nil ?_
    refine aw_seq (aw_seq (aw_reg ?_))
    refine s_t (x_q (e_move rfl) rfl ?_)
    refine s_t (x_q (e_len rfl (lenStr un9)) rfl ?_)
    refine s_t (x_q (e_bin rfl rfl (dF (by omega))) rfl ?_)
    refine s_t (x_q (e_move rfl) rfl ?_)
    refine s_g rfl (x_q (e_move rfl) rfl ?_)
    refine s_g rfl (x_q (e_len rfl (lenStr un9)) rfl ?_)
    refine s_g rfl (x_q (e_bin rfl rfl (dT (by omega))) rfl ?_)
    refine s_t (x_q (e_pickF rfl rfl rfl) rfl ?_)
    refine s_nil ?_
    refine (aw_ifT rfl ?_)
    refine aw_seq (aw_reg ?_)
    refine s_t (x_q (e_assign rfl) rfl ?_)
    refine s_nil ?_
    refine aw_ret (fn_ret rfl ⟨congrArg Value.bool ?_, rfl, rfl⟩)
    rw [← hb]; unfold isTag; rw [hsz]
    have h1 : (s.size == 2) = false := by rw [beq_eq_false_iff_ne]; omega
    have h2 : (s.size == 3) = false := by rw [beq_eq_false_iff_ne]; omega
    rw [h1, h2]; rfl
  refine aw_seq (aw_reg ?_)
  refine s_t (x_q (e_assign rfl) rfl ?_)
  refine s_nil ?_
  refine aw_seq (aw_seq (aw_reg ?_))
  refine s_t (x_q (e_move rfl) rfl ?_)
  refine s_t (x_q (e_len rfl (lenStr un9)) rfl ?_)
  refine s_t (x_q (e_bin rfl rfl (dF (by omega))) rfl ?_)
  refine s_t (x_q (e_move rfl) rfl ?_)
  refine s_g rfl (x_q (e_move rfl) rfl ?_)
  refine s_g rfl (x_q (e_len rfl (lenStr un9)) rfl ?_)
  refine s_g rfl (x_q (e_bin rfl rfl (dF (by omega))) rfl ?_)
  refine s_t (x_q (e_pickF rfl rfl rfl) rfl ?_)
  refine s_nil ?_
  refine (aw_ifF rfl (aw_skip ?_))
  refine aw_seq (aw_seq (aw_reg ?_))
  refine s_t (x_q (e_assign rfl) rfl ?_)
  refine s_nil ?_
  refine aw_block (aw_loop (α := Nat) (fun k => ⟨tms [(0, .string s), (3, .int .i64 (k : Int))], hp, nx, []⟩) (fun k => k ≤ s.size ∧ (s.data.toList.take k).all isUp = true) (fun k => s.size - k) 0 ⟨Nat.zero_le _, by simp⟩ (wk_tms (wk_cons rfl (wk_cons rfl wk_nil)) (fun _ _ h => h) (Nat.le_refl _)) ?_)
  intro k ⟨hk, hall⟩
  by_cases hlt : k < s.size
  · have hkl : k < s.data.toList.length := by omega
    have hget : s.data.toList[k]? = some s.data.toList[k] := List.getElem?_eq_getElem hkl
    generalize hc : s.data.toList[k] = c at *
    refine aw_seq (aw_seq (aw_reg ?_))
    refine s_t (x_q (e_move rfl) rfl ?_)
    refine s_t (x_q (e_move rfl) rfl ?_)
    refine s_t (x_q (e_len rfl (lenStr un9)) rfl ?_)
    refine s_t (x_q (e_bin rfl rfl (dT (by omega))) rfl ?_)
    refine s_nil ?_
    refine (aw_ifT rfl (aw_skip ?_))
    refine aw_seq (aw_block ?_)
    have bad : isUp c = false → b = false := fun hu => by
      rw [← hb]
      have : s.data.toList.all isUp = false := by
        rw [List.all_eq_false]; exact ⟨_, List.getElem_mem hkl, by rw [hc, hu]; exact Bool.false_ne_true⟩
      simp [isTag, this]
    by_cases h1 : c.toNat < 65
    · refine aw_seq (aw_reg ?_)
      refine s_t (x_q (e_move rfl) rfl ?_)
      refine s_t (x_q (e_move rfl) rfl ?_)
      refine s_t (x_q (e_ix rfl rfl (ixStr un9 hget)) rfl ?_)
      refine s_t (x_q (e_bin rfl rfl (dT (by omega))) rfl ?_)
      refine s_t (x_q (e_move rfl) rfl ?_)
      refine s_n rfl rfl ?_
      refine s_n rfl rfl ?_
      refine s_n rfl rfl ?_
      refine s_n rfl rfl ?_
      refine s_t (x_q (e_pickT rfl rfl rfl) rfl ?_)
      refine s_nil ?_
      refine (aw_ifT rfl ?_)
      refine aw_seq (aw_reg ?_)
      refine s_t (x_q (e_assign rfl) rfl ?_)
      refine s_nil ?_
      exact aw_ret (fn_ret rfl ⟨by rw [bad (by unfold isUp; rw [decide_eq_false (by omega)]; rfl)]; rfl, rfl, rfl⟩)
    by_cases h2 : 90 < c.toNat
    · refine aw_seq (aw_reg ?_)
      refine s_t (x_q (e_move rfl) rfl ?_)
      refine s_t (x_q (e_move rfl) rfl ?_)
      refine s_t (x_q (e_ix rfl rfl (ixStr un9 hget)) rfl ?_)
      refine s_t (x_q (e_bin rfl rfl (dF (by omega))) rfl ?_)
      refine s_t (x_q (e_move rfl) rfl ?_)
      refine s_g rfl (x_q (e_move rfl) rfl ?_)
      refine s_g rfl (x_q (e_move rfl) rfl ?_)
      refine s_g rfl (x_q (e_ix rfl rfl (ixStr un9 hget)) rfl ?_)
      refine s_g rfl (x_q (e_bin rfl rfl (dT (by omega))) rfl ?_)
      refine s_t (x_q (e_pickF rfl rfl rfl) rfl ?_)
      refine s_nil ?_
      refine (aw_ifT rfl ?_)
      refine aw_seq (aw_reg ?_)
      refine s_t (x_q (e_assign rfl) rfl ?_)
      refine s_nil ?_
      exact aw_ret (fn_ret rfl ⟨by rw [bad (by unfold isUp; rw [decide_eq_false (p := c.toNat ≤ 90) (by omega), Bool.and_false])]; rfl, rfl, rfl⟩)
    refine aw_seq (aw_reg ?_)
    refine s_t (x_q (e_move rfl) rfl ?_)
    refine s_t (x_q (e_move rfl) rfl ?_)
    refine s_t (x_q (e_ix rfl rfl (ixStr un9 hget)) rfl ?_)
    refine s_t (x_q (e_bin rfl rfl (dF (by omega))) rfl ?_)
    refine s_t (x_q (e_move rfl) rfl ?_)
    refine s_g rfl (x_q (e_move rfl) rfl ?_)
    refine s_g rfl (x_q (e_move rfl) rfl ?_)
    refine s_g rfl (x_q (e_ix rfl rfl (ixStr un9 hget)) rfl ?_)
    refine s_g rfl (x_q (e_bin rfl rfl (dF (by omega))) rfl ?_)
    refine s_t (x_q (e_pickF rfl rfl rfl) rfl ?_)
    refine s_nil ?_
    refine (aw_ifF rfl (aw_skip ?_))
    refine aw_reg ?_
    refine s_t (x_q (e_move rfl) rfl ?_)
    refine s_t (x_q (e_bin rfl rfl (b_addN _ 1 (by omega))) rfl ?_)
    refine s_t (x_q (e_assign rfl) rfl ?_)
    refine s_nil ?_
    refine ⟨k + 1, ⟨by omega, ?_⟩, by omega, wk_tms (wk_cons rfl (wk_cons rfl wk_nil)) (fun _ _ h => h) (Nat.le_refl _)⟩
    have hu : isUp c = true := by unfold isUp; rw [decide_eq_true (by omega), decide_eq_true (by omega)]; rfl
    rw [List.take_succ_eq_append_getElem hkl, List.all_append, hall, List.all_cons, List.all_nil, hc, hu]; rfl
  · refine aw_seq (aw_seq (aw_reg ?_))
    refine s_t (x_q (e_move rfl) rfl ?_)
    refine s_t (x_q (e_move rfl) rfl ?_)
    refine s_t (x_q (e_len rfl (lenStr un9)) rfl ?_)
    refine s_t (x_q (e_bin rfl rfl (dF (by omega))) rfl ?_)
    refine s_nil ?_
    refine (aw_ifF rfl (aw_exit ?_))
    refine aw_seq (aw_reg ?_)
    refine s_t (x_q (e_assign rfl) rfl ?_)
    refine s_nil ?_
    refine aw_ret (fn_ret rfl ⟨congrArg Value.bool ?_, rfl, rfl⟩)
    rw [← hb]
    rw [List.take_of_length_le (by omega)] at hall
    unfold isTag; rw [hall, hsz]
    have : s.size = 2 ∨ s.size = 3 := by omega
    rcases this with h | h <;> rw [h] <;> rfl

def isSign (c : UInt8) : Bool := c == 43 || c == 58 || c == 39 || c == 63

theorem eT {a b : Int} (h : a = b) : some (Value.bool (a == b)) = some (Value.bool true) := by rw [h, beq_self_eq_true]
theorem eF {a b : Int} (h : a ≠ b) : some (Value.bool (a == b)) = some (Value.bool false) := by rw [beq_eq_false_iff_ne.2 h]
theorem byte_ne {c : UInt8} {n : Nat} (hn : n < 256) (h : c ≠ UInt8.ofNat n) : (c.toNat : Int) ≠ n := fun e => h (by
  have : c.toNat = n := by omega
  rw [← this]; simp)

theorem rsign_c {hp : Tr AObj} {nx : Nat} {c : UInt8} {b : Bool} (hb : isSign c = b) :
    ACall Tryz.prog 0 27 [.int .u8 c.toNat] hp nx (fun v hp' nx' => v = .bool b ∧ hp' = hp ∧ nx' = nx) := by
  refine acall_fn named7 Tryz.func27 rfl rfl ?_
  show AW _ _ _ _ ⟨tms [(0, .int .u8 c.toNat)], hp, nx, []⟩ _
  subst hb
  by_cases h1 : c = 43
  · subst h1
    refine aw_seq (aw_reg ?_)
    refine s_t (x_q (e_assign rfl) rfl ?_)
    refine s_nil ?_
    refine aw_seq (aw_reg ?_)
    refine s_t (x_q (e_move rfl) rfl ?_)
    refine s_t (x_q (e_bin rfl rfl rfl) rfl ?_)
    refine s_t (x_q (e_move rfl) rfl ?_)
    refine s_n rfl rfl ?_
    refine s_n rfl rfl ?_
    refine s_t (x_q (e_pickT rfl rfl rfl) rfl ?_)
    refine s_t (x_q (e_move rfl) rfl ?_)
    refine s_n rfl rfl ?_
    refine s_n rfl rfl ?_
    refine s_t (x_q (e_pickT rfl rfl rfl) rfl ?_)
    refine s_t (x_q (e_move rfl) rfl ?_)
    refine s_n rfl rfl ?_
    refine s_n rfl rfl ?_
    refine s_t (x_q (e_pickT rfl rfl rfl) rfl ?_)
    refine s_t (x_q (e_assign rfl) rfl ?_)
    refine s_nil ?_
    exact aw_ret (fn_ret rfl ⟨rfl, rfl, rfl⟩)
  by_cases h2 : c = 58
  · subst h2
    refine aw_seq (aw_reg ?_)
    refine s_t (x_q (e_assign rfl) rfl ?_)
    refine s_nil ?_
    refine aw_seq (aw_reg ?_)
    refine s_t (x_q (e_move rfl) rfl ?_)
    refine s_t (x_q (e_bin rfl rfl rfl) rfl ?_)
    refine s_t (x_q (e_move rfl) rfl ?_)
    refine s_g rfl (x_q (e_move rfl) rfl ?_)
    refine s_g rfl (x_q (e_bin rfl rfl rfl) rfl ?_)
    refine s_t (x_q (e_pickF rfl rfl rfl) rfl ?_)
    refine s_t (x_q (e_move rfl) rfl ?_)
    refine s_n rfl rfl ?_
    refine s_n rfl rfl ?_
    refine s_t (x_q (e_pickT rfl rfl rfl) rfl ?_)
    refine s_t (x_q (e_move rfl) rfl ?_)
    refine s_n rfl rfl ?_
    refine s_n rfl rfl ?_
    refine s_t (x_q (e_pickT rfl rfl rfl) rfl ?_)
    refine s_t (x_q (e_assign rfl) rfl ?_)
    refine s_nil ?_
    exact aw_ret (fn_ret rfl ⟨rfl, rfl, rfl⟩)
  by_cases h3 : c = 39
  · subst h3
    refine aw_seq (aw_reg ?_)
    refine s_t (x_q (e_assign rfl) rfl ?_)
    refine s_nil ?_
    refine aw_seq (aw_reg ?_)
    refine s_t (x_q (e_move rfl) rfl ?_)
    refine s_t (x_q (e_bin rfl rfl rfl) rfl ?_)
    refine s_t (x_q (e_move rfl) rfl ?_)
    refine s_g rfl (x_q (e_move rfl) rfl ?_)
    refine s_g rfl (x_q (e_bin rfl rfl rfl) rfl ?_)
    refine s_t (x_q (e_pickF rfl rfl rfl) rfl ?_)
    refine s_t (x_q (e_move rfl) rfl ?_)
    refine s_g rfl (x_q (e_move rfl) rfl ?_)
    refine s_g rfl (x_q (e_bin rfl rfl rfl) rfl ?_)
    refine s_t (x_q (e_pickF rfl rfl rfl) rfl ?_)
    refine s_t (x_q (e_move rfl) rfl ?_)
    refine s_n rfl rfl ?_
    refine s_n rfl rfl ?_
    refine s_t (x_q (e_pickT rfl rfl rfl) rfl ?_)
    refine s_t (x_q (e_assign rfl) rfl ?_)
    refine s_nil ?_
    exact aw_ret (fn_ret rfl ⟨rfl, rfl, rfl⟩)
  by_cases h4 : c = 63
  · subst h4
    refine aw_seq (aw_reg ?_)
    refine s_t (x_q (e_assign rfl) rfl ?_)
    refine s_nil ?_
    refine aw_seq (aw_reg ?_)
    refine s_t (x_q (e_move rfl) rfl ?_)
    refine s_t (x_q (e_bin rfl rfl rfl) rfl ?_)
    refine s_t (x_q (e_move rfl) rfl ?_)
    refine s_g rfl (x_q (e_move rfl) rfl ?_)
    refine s_g rfl (x_q (e_bin rfl rfl rfl) rfl ?_)
    refine s_t (x_q (e_pickF rfl rfl rfl) rfl ?_)
    refine s_t (x_q (e_move rfl) rfl ?_)
    refine s_g rfl (x_q (e_move rfl) rfl ?_)
    refine s_g rfl (x_q (e_bin rfl rfl rfl) rfl ?_)
    refine s_t (x_q (e_pickF rfl rfl rfl) rfl ?_)
    refine s_t (x_q (e_move rfl) rfl ?_)
    refine s_g rfl (x_q (e_move rfl) rfl ?_)
    refine s_g rfl (x_q (e_bin rfl rfl rfl) rfl ?_)
    refine s_t (x_q (e_pickF rfl rfl rfl) rfl ?_)
    refine s_t (x_q (e_assign rfl) rfl ?_)
    refine s_nil ?_
    exact aw_ret (fn_ret rfl ⟨rfl, rfl, rfl⟩)
  refine aw_seq (aw_reg ?_)
  refine s_t (x_q (e_assign rfl) rfl ?_)
  refine s_nil ?_
  refine aw_seq (aw_reg ?_)
  refine s_t (x_q (e_move rfl) rfl ?_)
  refine s_t (x_q (e_bin rfl rfl (eF (byte_ne (n := 43) (by decide) h1))) rfl ?_)
  refine s_t (x_q (e_move rfl) rfl ?_)
  refine s_g rfl (x_q (e_move rfl) rfl ?_)
  refine s_g rfl (x_q (e_bin rfl rfl (eF (byte_ne (n := 58) (by decide) h2))) rfl ?_)
  refine s_t (x_q (e_pickF rfl rfl rfl) rfl ?_)
  refine s_t (x_q (e_move rfl) rfl ?_)
  refine s_g rfl (x_q (e_move rfl) rfl ?_)
  refine s_g rfl (x_q (e_bin rfl rfl (eF (byte_ne (n := 39) (by decide) h3))) rfl ?_)
  refine s_t (x_q (e_pickF rfl rfl rfl) rfl ?_)
  refine s_t (x_q (e_move rfl) rfl ?_)
  refine s_g rfl (x_q (e_move rfl) rfl ?_)
  refine s_g rfl (x_q (e_bin rfl rfl (eF (byte_ne (n := 63) (by decide) h4))) rfl ?_)
  refine s_t (x_q (e_pickF rfl rfl rfl) rfl ?_)
  refine s_t (x_q (e_assign rfl) rfl ?_)
  refine s_nil ?_
  refine aw_ret (fn_ret rfl ⟨congrArg Value.bool ?_, rfl, rfl⟩)
  simp [isSign, h1, h2, h3, h4]
end Go.Proofs.YtkjkoejnicbieaaGreat.AM

/-
  The message's functions, walked: the reference's 'Segment'; 'fits'.
-/
import Derived.Test.YtkjkoejnicbieaaGreatAmP4
namespace Go.Proofs.YtkjkoejnicbieaaGreat.AM
open Go Go.RowKit

def okCh (c : UInt8) : Bool := 32 ≤ c.toNat && c.toNat ≤ 126
def okPart (p : ByteArray) : Bool := decide (p.size ≤ 20) && p.data.toList.all okCh
def okEl (e : List ByteArray) : Bool := decide (1 ≤ e.length) && decide (e.length ≤ 5) && e.all okPart
def okSeg (x : Seg) : Bool := isTag x.tag.data.toList && decide (x.els.length ≤ 8) && x.els.all okEl
def FitsEls (es : List (List ByteArray)) : Prop := es.length < BIG ∧ ∀ y ∈ es, y.length < BIG ∧ ∀ s ∈ y, s.size < BIG

theorem all_bad {α : Type} {f : α → Bool} {l : List α} {x : α} (h : x ∈ l) (hx : f x = false) : l.all f = false := by
  rw [List.all_eq_false]; exact ⟨x, h, by rw [hx]; exact Bool.false_ne_true⟩
theorem all_step {α : Type} {f : α → Bool} {l : List α} {d : α} {k : Nat} (h : (l.take k).all f = true) (hk : k < l.length) (hx : f (l.getD k d) = true) : (l.take (k + 1)).all f = true := by
  rw [List.take_succ_eq_append_getElem hk, List.all_append, h, List.all_cons, List.all_nil]
  rw [List.getD_eq_getElem?_getD, List.getElem?_eq_getElem hk] at hx
  simpa using hx
theorem all_end {α : Type} {f : α → Bool} {l : List α} {k : Nat} (h : (l.take k).all f = true) (hk : l.length ≤ k) : l.all f = true := by
  rwa [List.take_of_length_le hk] at h

set_option maxHeartbeats 1000000 in
theorem rseg_c {hp : Tr AObj} {nx : Nat} {tag : ByteArray} {u : Value} {els : List (List ByteArray)} (hu : RdEls hp u els) (hfit : FitsEls els) (hf : Fr hp nx) {b : Bool} (hb : okSeg ⟨tag, els⟩ = b) :
    ACall Tryz.prog 0 26 [.agg #[.string tag, u]] hp nx (fun v hp' nx' => v = .bool b ∧ hp' = hp ∧ nx' = nx) := by
  obtain ⟨hle, hyy⟩ := hfit
  unfold BIG at hle hyy
  refine ACall.pure (S := fun v hp' _ => v = .bool b ∧ Sub hp hp') ?_ (fun v hp' nx' h => h) rfl
  refine acall_fn named7 Tryz.func26 rfl rfl ?_
  show AW _ _ _ _ ⟨tms [(0, .agg #[.string tag, u])], hp, nx, []⟩ _
  refine aw_seq (aw_reg ?_)
  refine s_t (x_box rfl sz31 rfl ?_)
  refine s_t (x_q (e_assign rfl) rfl ?_)
  refine s_nil ?_
  generalize hh : hp.set nx _ = hp1
  have hx : hp1.get nx = some (.cells [.string tag, u] 31 2 0 false true) := by rw [← hh]; exact Tr.get_set_same _ _ _
  have hs : Sub hp hp1 := by rw [← hh]; exact hf.sub _
  clear hh
  replace hu := hu.mono hs
  obtain ⟨ba, ca, rfl, hu⟩ := hu
  have bad1 : isTag tag.data.toList = false → b = false := fun h => by rw [← hb]; simp [okSeg, h]
  have bad2 : ¬ els.length ≤ 8 → b = false := fun h => by rw [← hb]; simp only [okSeg, decide_eq_false h, Bool.and_false, Bool.false_and]
  have bad3 : ∀ k, k < els.length → okEl (els.getD k []) = false → b = false := fun k hk h => by
    rw [← hb]; simp only [okSeg, all_bad (getD_mem hk) h, Bool.and_false]
  cases ht : isTag tag.data.toList with
  | false =>
    refine aw_seq (aw_seq (aw_reg ?_))
    refine s_t (x_q (e_fa rfl (fa31_0 _ _)) rfl ?_)
    refine s_t (x_q (e_load rfl (ld1 ag9 hx rfl)) rfl ?_)
    refine s_t (x_pure rfl rfl rfl (rtag_c ht) ?_)
    refine s_t (x_q (e_un rfl rfl) rfl ?_)
    refine s_t (x_q (e_move rfl) rfl ?_)
    refine s_n rfl rfl ?_
    refine s_n rfl rfl ?_
    refine s_n rfl rfl ?_
    refine s_n rfl rfl ?_
    refine s_t (x_q (e_pickT rfl rfl rfl) rfl ?_)
    refine s_nil ?_
    refine (aw_ifT rfl ?_)
    refine aw_seq (aw_reg ?_)
    refine s_t (x_q (e_assign rfl) rfl ?_)
    refine s_nil ?_
    exact aw_ret (fn_ret rfl ⟨by rw [bad1 ht]; rfl, hs⟩)
  | true =>
  by_cases h8 : els.length ≤ 8
  case neg =>
    refine aw_seq (aw_seq (aw_reg ?_))
    refine s_t (x_q (e_fa rfl (fa31_0 _ _)) rfl ?_)
    refine s_t (x_q (e_load rfl (ld1 ag9 hx rfl)) rfl ?_)
    refine s_t (x_pure rfl rfl rfl (rtag_c ht) ?_)
    refine s_t (x_q (e_un rfl rfl) rfl ?_)
    refine s_t (x_q (e_move rfl) rfl ?_)
    refine s_g rfl (x_q (e_fa rfl (fa31_1 _ _)) rfl ?_)
    refine s_g rfl (x_q (e_load rfl (ld1 ag29 hx rfl)) rfl ?_)
    refine s_g rfl (x_q (e_len rfl (lenSl un29)) rfl ?_)
    refine s_g rfl (x_q (e_bin rfl rfl (dT (by omega))) rfl ?_)
    refine s_t (x_q (e_pickF rfl rfl rfl) rfl ?_)
    refine s_nil ?_
    refine (aw_ifT rfl ?_)
    refine aw_seq (aw_reg ?_)
    refine s_t (x_q (e_assign rfl) rfl ?_)
    refine s_nil ?_
    exact aw_ret (fn_ret rfl ⟨by rw [bad2 h8]; rfl, hs⟩)
  refine aw_seq (aw_seq (aw_reg ?_))
  refine s_t (x_q (e_fa rfl (fa31_0 _ _)) rfl ?_)
  refine s_t (x_q (e_load rfl (ld1 ag9 hx rfl)) rfl ?_)
  refine s_t (x_pure rfl rfl rfl (rtag_c ht) ?_)
  refine s_t (x_q (e_un rfl rfl) rfl ?_)
  refine s_t (x_q (e_move rfl) rfl ?_)
  refine s_g rfl (x_q (e_fa rfl (fa31_1 _ _)) rfl ?_)
  refine s_g rfl (x_q (e_load rfl (ld1 ag29 hx rfl)) rfl ?_)
  refine s_g rfl (x_q (e_len rfl (lenSl un29)) rfl ?_)
  refine s_g rfl (x_q (e_bin rfl rfl (dF (by omega))) rfl ?_)
  refine s_t (x_q (e_pickF rfl rfl rfl) rfl ?_)
  refine s_nil ?_
  refine (aw_ifF rfl (aw_skip ?_))
  refine aw_seq (aw_seq (aw_reg ?_))
  refine s_t (x_q (e_assign rfl) rfl ?_)
  refine s_nil ?_
  refine aw_block (aw_loop (α := Nat) (fun k => ⟨tms [(1, ptrTo nx), (3, .int .i64 (k : Int))], hp1, nx + 1, []⟩) (fun k => k ≤ els.length ∧ (els.take k).all okEl = true) (fun k => els.length - k) 0 ⟨Nat.zero_le _, by simp⟩ (wk_tms (wk_cons rfl (wk_cons rfl wk_nil)) sub_rfl (Nat.le_refl _)) ?_)
  intro k ⟨hk, hall⟩
  by_cases hlt : k < els.length
  · obtain ⟨b1, o1, c1, e1, fz1, ro1, hd1, rfl, hg1, hc1⟩ := hu (by omega)
    obtain ⟨w, q1, hy⟩ := hc1 k hlt
    obtain ⟨hly, hss⟩ := hyy _ (getD_mem (d := []) hlt)
    have bad4 := bad3 k hlt
    have good := all_step (d := []) hall hlt
    generalize els.getD k [] = y at *
    obtain ⟨by_, cy, rfl, hy⟩ := hy
    refine aw_seq (aw_seq (aw_reg ?_))
    refine s_t (x_q (e_move rfl) rfl ?_)
    refine s_t (x_q (e_fa rfl (fa31_1 _ _)) rfl ?_)
    refine s_t (x_q (e_load rfl (ld1 ag29 hx rfl)) rfl ?_)
    refine s_t (x_q (e_len rfl (lenSl un29)) rfl ?_)
    refine s_t (x_q (e_bin rfl rfl (dT (by omega))) rfl ?_)
    refine s_nil ?_
    refine (aw_ifT rfl (aw_skip ?_))
    refine aw_seq (aw_block ?_)
    by_cases hl1 : y.length < 1
    · refine aw_seq (aw_seq (aw_reg ?_))
      refine s_t (x_q (e_fa rfl (fa31_1 _ _)) rfl ?_)
      refine s_t (x_q (e_load rfl (ld1 ag29 hx rfl)) rfl ?_)
      refine s_t (x_q (e_move rfl) rfl ?_)
      refine s_t (x_q (e_ia rfl rfl (iaSl un29 sz28 hlt)) rfl ?_)
      refine s_t (x_q (e_load rfl (ld1 ag28 hg1 q1)) rfl ?_)
      refine s_t (x_q (e_len rfl (lenSl un28)) rfl ?_)
      refine s_t (x_q (e_bin rfl rfl (dT (by omega))) rfl ?_)
      refine s_t (x_q (e_move rfl) rfl ?_)
      refine s_n rfl rfl ?_
      refine s_n rfl rfl ?_
      refine s_n rfl rfl ?_
      refine s_n rfl rfl ?_
      refine s_n rfl rfl ?_
      refine s_n rfl rfl ?_
      refine s_n rfl rfl ?_
      refine s_t (x_q (e_pickT rfl rfl rfl) rfl ?_)
      refine s_nil ?_
      refine (aw_ifT rfl ?_)
      refine aw_seq (aw_reg ?_)
      refine s_t (x_q (e_assign rfl) rfl ?_)
      refine s_nil ?_
      exact aw_ret (fn_ret rfl ⟨by rw [bad4 (by unfold okEl; rw [decide_eq_false (by omega)]; rfl)]; rfl, hs⟩)
    by_cases hl5 : 5 < y.length
    · refine aw_seq (aw_seq (aw_reg ?_))
      refine s_t (x_q (e_fa rfl (fa31_1 _ _)) rfl ?_)
      refine s_t (x_q (e_load rfl (ld1 ag29 hx rfl)) rfl ?_)
      refine s_t (x_q (e_move rfl) rfl ?_)
      refine s_t (x_q (e_ia rfl rfl (iaSl un29 sz28 hlt)) rfl ?_)
      refine s_t (x_q (e_load rfl (ld1 ag28 hg1 q1)) rfl ?_)
      refine s_t (x_q (e_len rfl (lenSl un28)) rfl ?_)
      refine s_t (x_q (e_bin rfl rfl (dF (by omega))) rfl ?_)
      refine s_t (x_q (e_move rfl) rfl ?_)
      refine s_g rfl (x_q (e_fa rfl (fa31_1 _ _)) rfl ?_)
      refine s_g rfl (x_q (e_load rfl (ld1 ag29 hx rfl)) rfl ?_)
      refine s_g rfl (x_q (e_move rfl) rfl ?_)
      refine s_g rfl (x_q (e_ia rfl rfl (iaSl un29 sz28 hlt)) rfl ?_)
      refine s_g rfl (x_q (e_load rfl (ld1 ag28 hg1 q1)) rfl ?_)
      refine s_g rfl (x_q (e_len rfl (lenSl un28)) rfl ?_)
      refine s_g rfl (x_q (e_bin rfl rfl (dT (by omega))) rfl ?_)
      refine s_t (x_q (e_pickF rfl rfl rfl) rfl ?_)
      refine s_nil ?_
      refine (aw_ifT rfl ?_)
      refine aw_seq (aw_reg ?_)
      refine s_t (x_q (e_assign rfl) rfl ?_)
      refine s_nil ?_
      exact aw_ret (fn_ret rfl ⟨by rw [bad4 (by unfold okEl; rw [decide_eq_false (p := y.length ≤ 5) (by omega), Bool.and_false, Bool.false_and])]; rfl, hs⟩)
    refine aw_seq (aw_seq (aw_reg ?_))
    refine s_t (x_q (e_fa rfl (fa31_1 _ _)) rfl ?_)
    refine s_t (x_q (e_load rfl (ld1 ag29 hx rfl)) rfl ?_)
    refine s_t (x_q (e_move rfl) rfl ?_)
    refine s_t (x_q (e_ia rfl rfl (iaSl un29 sz28 hlt)) rfl ?_)
    refine s_t (x_q (e_load rfl (ld1 ag28 hg1 q1)) rfl ?_)
    refine s_t (x_q (e_len rfl (lenSl un28)) rfl ?_)
    refine s_t (x_q (e_bin rfl rfl (dF (by omega))) rfl ?_)
    refine s_t (x_q (e_move rfl) rfl ?_)
    refine s_g rfl (x_q (e_fa rfl (fa31_1 _ _)) rfl ?_)
    refine s_g rfl (x_q (e_load rfl (ld1 ag29 hx rfl)) rfl ?_)
    refine s_g rfl (x_q (e_move rfl) rfl ?_)
    refine s_g rfl (x_q (e_ia rfl rfl (iaSl un29 sz28 hlt)) rfl ?_)
    refine s_g rfl (x_q (e_load rfl (ld1 ag28 hg1 q1)) rfl ?_)
    refine s_g rfl (x_q (e_len rfl (lenSl un28)) rfl ?_)
    refine s_g rfl (x_q (e_bin rfl rfl (dF (by omega))) rfl ?_)
    refine s_t (x_q (e_pickF rfl rfl rfl) rfl ?_)
    refine s_nil ?_
    refine (aw_ifF rfl (aw_skip ?_))
    refine aw_seq (aw_reg ?_)
    refine s_t (x_q (e_assign rfl) rfl ?_)
    refine s_nil ?_
    refine aw_block (aw_loop (α := Nat) (fun j => ⟨tms [(1, ptrTo nx), (3, .int .i64 (k : Int)), (4, .int .i64 (j : Int))], hp1, nx + 1, []⟩) (fun j => j ≤ y.length ∧ (y.take j).all okPart = true) (fun j => y.length - j) 0 ⟨Nat.zero_le _, by simp⟩ (wk_tms (wk_cons rfl (wk_cons rfl (wk_cons rfl wk_nil))) sub_rfl (Nat.le_refl _)) ?_)
    intro j ⟨hj, hallj⟩
    by_cases hltj : j < y.length
    · obtain ⟨b2, o2, c2, e2, fz2, ro2, hd2, rfl, hg2, hc2⟩ := hy (by omega)
      obtain ⟨z, q2, rfl⟩ := hc2 j hltj
      have hsz := hss _ (getD_mem (d := ⟨#[]⟩) hltj)
      have badp : okPart (y.getD j ⟨#[]⟩) = false → b = false := fun h => bad4 (by unfold okEl; rw [all_bad (getD_mem hltj) h, Bool.and_false])
      have goodp := all_step (d := ⟨#[]⟩) hallj hltj
      generalize y.getD j ⟨#[]⟩ = p at *
      have hpl := size_list p
      refine aw_seq (aw_seq (aw_reg ?_))
      refine s_t (x_q (e_move rfl) rfl ?_)
      refine s_t (x_q (e_fa rfl (fa31_1 _ _)) rfl ?_)
      refine s_t (x_q (e_load rfl (ld1 ag29 hx rfl)) rfl ?_)
      refine s_t (x_q (e_move rfl) rfl ?_)
      refine s_t (x_q (e_ia rfl rfl (iaSl un29 sz28 hlt)) rfl ?_)
      refine s_t (x_q (e_load rfl (ld1 ag28 hg1 q1)) rfl ?_)
      refine s_t (x_q (e_len rfl (lenSl un28)) rfl ?_)
      refine s_t (x_q (e_bin rfl rfl (dT (by omega))) rfl ?_)
      refine s_nil ?_
      refine (aw_ifT rfl (aw_skip ?_))
      refine aw_seq (aw_block ?_)
      refine aw_seq (aw_reg ?_)
      refine s_t (x_q (e_fa rfl (fa31_1 _ _)) rfl ?_)
      refine s_t (x_q (e_load rfl (ld1 ag29 hx rfl)) rfl ?_)
      refine s_t (x_q (e_move rfl) rfl ?_)
      refine s_t (x_q (e_ia rfl rfl (iaSl un29 sz28 hlt)) rfl ?_)
      refine s_t (x_q (e_load rfl (ld1 ag28 hg1 q1)) rfl ?_)
      refine s_t (x_q (e_move rfl) rfl ?_)
      refine s_t (x_q (e_ia rfl rfl (iaSl un28 sz9 hltj)) rfl ?_)
      refine s_t (x_q (e_load rfl (ld1 ag9 hg2 q2)) rfl ?_)
      refine s_t (x_q (e_assign rfl) rfl ?_)
      refine s_nil ?_
      by_cases h20 : p.size ≤ 20
      case neg =>
        refine aw_seq (aw_seq (aw_reg ?_))
        refine s_t (x_q (e_move rfl) rfl ?_)
        refine s_t (x_q (e_len rfl (lenStr un9)) rfl ?_)
        refine s_t (x_q (e_bin rfl rfl (dT (by omega))) rfl ?_)
        refine s_nil ?_
        refine (aw_ifT rfl ?_)
        refine aw_seq (aw_reg ?_)
        refine s_t (x_q (e_assign rfl) rfl ?_)
        refine s_nil ?_
        exact aw_ret (fn_ret rfl ⟨by rw [badp (by unfold okPart; rw [decide_eq_false h20]; rfl)]; rfl, hs⟩)
      refine aw_seq (aw_seq (aw_reg ?_))
      refine s_t (x_q (e_move rfl) rfl ?_)
      refine s_t (x_q (e_len rfl (lenStr un9)) rfl ?_)
      refine s_t (x_q (e_bin rfl rfl (dF (by omega))) rfl ?_)
      refine s_nil ?_
      refine (aw_ifF rfl (aw_skip ?_))
      refine aw_seq (aw_reg ?_)
      refine s_t (x_q (e_assign rfl) rfl ?_)
      refine s_nil ?_
      refine aw_block (aw_loop (α := Nat) (fun n => ⟨tms [(1, ptrTo nx), (3, .int .i64 (k : Int)), (4, .int .i64 (j : Int)), (5, .string p), (6, .int .i64 (n : Int))], hp1, nx + 1, []⟩) (fun n => n ≤ p.size ∧ (p.data.toList.take n).all okCh = true) (fun n => p.size - n) 0 ⟨Nat.zero_le _, by simp⟩ (wk_tms (wk_cons rfl (wk_cons rfl (wk_cons rfl (wk_cons rfl (wk_cons rfl wk_nil))))) sub_rfl (Nat.le_refl _)) ?_)
      intro n ⟨hn, halln⟩
      by_cases hltn : n < p.size
      · have hkl : n < p.data.toList.length := by omega
        have hget := getD_some (d := (0 : UInt8)) hkl
        have badc : okCh (p.data.toList.getD n 0) = false → b = false := fun h => badp (by unfold okPart; rw [all_bad (getD_mem hkl) h, Bool.and_false])
        have goodc := all_step (d := (0 : UInt8)) halln hkl
        generalize p.data.toList.getD n 0 = c at *
        refine aw_seq (aw_seq (aw_reg ?_))
        refine s_t (x_q (e_move rfl) rfl ?_)
        refine s_t (x_q (e_move rfl) rfl ?_)
        refine s_t (x_q (e_len rfl (lenStr un9)) rfl ?_)
        refine s_t (x_q (e_bin rfl rfl (dT (by omega))) rfl ?_)
        refine s_nil ?_
        refine (aw_ifT rfl (aw_skip ?_))
        refine aw_seq (aw_block ?_)
        by_cases h1 : c.toNat < 32
        · refine aw_seq (aw_reg ?_)
          refine s_t (x_q (e_move rfl) rfl ?_)
          refine s_t (x_q (e_move rfl) rfl ?_)
          refine s_t (x_q (e_ix rfl rfl (ixStr un9 hget)) rfl ?_)
          refine s_t (x_q (e_bin rfl rfl (dT (by omega))) rfl ?_)
          refine s_t (x_q (e_move rfl) rfl ?_)
          refine s_n rfl rfl ?_
          refine s_n rfl rfl ?_
          refine s_n rfl rfl ?_
          refine s_n rfl rfl ?_
          refine s_t (x_q (e_pickT rfl rfl rfl) rfl ?_)
          refine s_nil ?_
          refine (aw_ifT rfl ?_)
          refine aw_seq (aw_reg ?_)
          refine s_t (x_q (e_assign rfl) rfl ?_)
          refine s_nil ?_
          exact aw_ret (fn_ret rfl ⟨by rw [badc (by unfold okCh; rw [decide_eq_false (by omega)]; rfl)]; rfl, hs⟩)
        by_cases h2 : 126 < c.toNat
        · refine aw_seq (aw_reg ?_)
          refine s_t (x_q (e_move rfl) rfl ?_)
          refine s_t (x_q (e_move rfl) rfl ?_)
          refine s_t (x_q (e_ix rfl rfl (ixStr un9 hget)) rfl ?_)
          refine s_t (x_q (e_bin rfl rfl (dF (by omega))) rfl ?_)
          refine s_t (x_q (e_move rfl) rfl ?_)
          refine s_g rfl (x_q (e_move rfl) rfl ?_)
          refine s_g rfl (x_q (e_move rfl) rfl ?_)
          refine s_g rfl (x_q (e_ix rfl rfl (ixStr un9 hget)) rfl ?_)
          refine s_g rfl (x_q (e_bin rfl rfl (dT (by omega))) rfl ?_)
          refine s_t (x_q (e_pickF rfl rfl rfl) rfl ?_)
          refine s_nil ?_
          refine (aw_ifT rfl ?_)
          refine aw_seq (aw_reg ?_)
          refine s_t (x_q (e_assign rfl) rfl ?_)
          refine s_nil ?_
          exact aw_ret (fn_ret rfl ⟨by rw [badc (by unfold okCh; rw [decide_eq_false (p := c.toNat ≤ 126) (by omega), Bool.and_false])]; rfl, hs⟩)
        refine aw_seq (aw_reg ?_)
        refine s_t (x_q (e_move rfl) rfl ?_)
        refine s_t (x_q (e_move rfl) rfl ?_)
        refine s_t (x_q (e_ix rfl rfl (ixStr un9 hget)) rfl ?_)
        refine s_t (x_q (e_bin rfl rfl (dF (by omega))) rfl ?_)
        refine s_t (x_q (e_move rfl) rfl ?_)
        refine s_g rfl (x_q (e_move rfl) rfl ?_)
        refine s_g rfl (x_q (e_move rfl) rfl ?_)
        refine s_g rfl (x_q (e_ix rfl rfl (ixStr un9 hget)) rfl ?_)
        refine s_g rfl (x_q (e_bin rfl rfl (dF (by omega))) rfl ?_)
        refine s_t (x_q (e_pickF rfl rfl rfl) rfl ?_)
        refine s_nil ?_
        refine (aw_ifF rfl (aw_skip ?_))
        refine aw_reg ?_
        refine s_t (x_q (e_move rfl) rfl ?_)
        refine s_t (x_q (e_bin rfl rfl (b_addN _ 1 (by omega))) rfl ?_)
        refine s_t (x_q (e_assign rfl) rfl ?_)
        refine s_nil ?_
        exact ⟨n + 1, ⟨by omega, goodc (by unfold okCh; rw [decide_eq_true (by omega), decide_eq_true (by omega)]; rfl)⟩, by omega, wk_tms (wk_cons rfl (wk_cons rfl (wk_cons rfl (wk_cons rfl (wk_cons rfl wk_nil))))) sub_rfl (Nat.le_refl _)⟩
      · refine aw_seq (aw_seq (aw_reg ?_))
        refine s_t (x_q (e_move rfl) rfl ?_)
        refine s_t (x_q (e_move rfl) rfl ?_)
        refine s_t (x_q (e_len rfl (lenStr un9)) rfl ?_)
        refine s_t (x_q (e_bin rfl rfl (dF (by omega))) rfl ?_)
        refine s_nil ?_
        refine (aw_ifF rfl (aw_exit ?_))
        refine aw_reg ?_
        refine s_t (x_q (e_move rfl) rfl ?_)
        refine s_t (x_q (e_bin rfl rfl (b_addN _ 1 (by omega))) rfl ?_)
        refine s_t (x_q (e_assign rfl) rfl ?_)
        refine s_nil ?_
        exact ⟨j + 1, ⟨by omega, goodp (by unfold okPart; rw [decide_eq_true h20, all_end halln (by omega)]; rfl)⟩, by omega, wk_tms (wk_cons rfl (wk_cons rfl (wk_cons rfl wk_nil))) sub_rfl (Nat.le_refl _)⟩
    · refine aw_seq (aw_seq (aw_reg ?_))
      refine s_t (x_q (e_move rfl) rfl ?_)
      refine s_t (x_q (e_fa rfl (fa31_1 _ _)) rfl ?_)
      refine s_t (x_q (e_load rfl (ld1 ag29 hx rfl)) rfl ?_)
      refine s_t (x_q (e_move rfl) rfl ?_)
      refine s_t (x_q (e_ia rfl rfl (iaSl un29 sz28 hlt)) rfl ?_)
      refine s_t (x_q (e_load rfl (ld1 ag28 hg1 q1)) rfl ?_)
      refine s_t (x_q (e_len rfl (lenSl un28)) rfl ?_)
      refine s_t (x_q (e_bin rfl rfl (dF (by omega))) rfl ?_)
      refine s_nil ?_
      refine (aw_ifF rfl (aw_exit ?_))
      refine aw_reg ?_
      refine s_t (x_q (e_move rfl) rfl ?_)
      refine s_t (x_q (e_bin rfl rfl (b_addN _ 1 (by omega))) rfl ?_)
      refine s_t (x_q (e_assign rfl) rfl ?_)
      refine s_nil ?_
      exact ⟨k + 1, ⟨by omega, good (by unfold okEl; rw [decide_eq_true (by omega), decide_eq_true (by omega), all_end hallj (by omega)]; rfl)⟩, by omega, wk_tms (wk_cons rfl (wk_cons rfl wk_nil)) sub_rfl (Nat.le_refl _)⟩
  · refine aw_seq (aw_seq (aw_reg ?_))
    refine s_t (x_q (e_move rfl) rfl ?_)
    refine s_t (x_q (e_fa rfl (fa31_1 _ _)) rfl ?_)
    refine s_t (x_q (e_load rfl (ld1 ag29 hx rfl)) rfl ?_)
    refine s_t (x_q (e_len rfl (lenSl un29)) rfl ?_)
    refine s_t (x_q (e_bin rfl rfl (dF (by omega))) rfl ?_)
    refine s_nil ?_
    refine (aw_ifF rfl (aw_exit ?_))
    refine aw_seq (aw_reg ?_)
    refine s_t (x_q (e_assign rfl) rfl ?_)
    refine s_nil ?_
    exact aw_ret (fn_ret rfl ⟨by rw [← hb, okSeg, ht, decide_eq_true h8, all_end hall (by omega)]; rfl, hs⟩)

def fitEl (e : List ByteArray) : Bool := decide (1 ≤ e.length) && decide (e.length ≤ 5) && e.all (fun p => decide (p.size ≤ 20))
def fitEls (es : List (List ByteArray)) : Bool := decide (es.length ≤ 8) && es.all fitEl

theorem fits11_c {hp : Tr AObj} {nx : Nat} {s : ByteArray} {b : Bool} (hb : decide (s.size ≤ 20) = b) :
    ACall Tryz.prog 0 39 [.string s] hp nx (fun v hp' nx' => v = .bool (!b) ∧ hp' = hp ∧ nx' = nx) := by
  refine acall_fn named7 Tryz.func39 rfl rfl ?_
  show AW _ _ _ _ ⟨tms [(0, .string s)], hp, nx, []⟩ _
  refine aw_seq (aw_reg ?_)
  refine s_t (x_q (e_assign rfl) rfl ?_)
  refine s_nil ?_
  refine aw_seq (aw_reg ?_)
  refine s_t (x_q (e_move rfl) rfl ?_)
  refine s_t (x_q (e_len rfl (lenStr un9)) rfl ?_)
  refine s_t (x_q (e_bin rfl rfl rfl) rfl ?_)
  refine s_t (x_q (e_assign rfl) rfl ?_)
  refine s_nil ?_
  refine aw_ret (fn_ret rfl ⟨congrArg Value.bool ?_, rfl, rfl⟩)
  rw [← hb]
  by_cases h : s.size ≤ 20
  · rw [decide_eq_true h, decide_eq_false (by omega)]; rfl
  · rw [decide_eq_false h, decide_eq_true (by omega)]; rfl

theorem idx1_c {hp : Tr AObj} {nx : Nat} {v : Value} {y : List ByteArray} (hy : RdStrs hp v y) (hl : y.length < BIG) :
    ACall Tryz.prog 0 53 [v, .func (.func 39) #[] #[]] hp nx (fun v hp' nx' => (y.all (fun p => decide (p.size ≤ 20)) = true → v = .int .i64 (-1)) ∧ (y.all (fun p => decide (p.size ≤ 20)) = false → ∃ k : Nat, v = .int .i64 (k : Int)) ∧ hp' = hp ∧ nx' = nx) := by
  unfold BIG at hl
  obtain ⟨ba, ca, rfl, hy⟩ := hy
  refine acall_fn named7 Tryz.func53 rfl rfl ?_
  show AW _ _ _ _ ⟨tms [(1, .func (.func 39) #[] #[]), (0, .slice ba y.length ca)], hp, nx, []⟩ _
  refine aw_seq (aw_reg ?_)
  refine s_t (x_q (e_assign rfl) rfl ?_)
  refine s_nil ?_
  refine aw_seq (aw_seq (aw_reg ?_))
  refine s_t (x_q (e_move rfl) rfl ?_)
  refine s_t (x_q (e_len rfl (lenSl un28)) rfl ?_)
  refine s_t (x_q (e_move rfl) rfl ?_)
  refine s_nil ?_
  refine aw_block (aw_loop (α := Nat) (fun k => ⟨tms [(0, .slice ba y.length ca), (1, .func (.func 39) #[] #[]), (7, .int .i64 (y.length : Int)), (8, .int .i64 (k : Int))], hp, nx, []⟩) (fun k => k ≤ y.length ∧ (y.take k).all (fun p => decide (p.size ≤ 20)) = true) (fun k => y.length - k) 0 ⟨Nat.zero_le _, by simp⟩ (wk_tms (wk_cons rfl (wk_cons rfl (wk_cons rfl (wk_cons rfl wk_nil)))) sub_rfl (Nat.le_refl _)) ?_)
  intro k ⟨hk, hall⟩
  by_cases hlt : k < y.length
  · obtain ⟨b1, o1, c1, e1, fz1, ro1, hd1, rfl, hg1, hc1⟩ := hy (by omega)
    obtain ⟨w, q1, rfl⟩ := hc1 k hlt
    have bad := all_bad (f := fun p : ByteArray => decide (p.size ≤ 20)) (getD_mem (d := ⟨#[]⟩) hlt)
    have good := all_step (f := fun p : ByteArray => decide (p.size ≤ 20)) (d := ⟨#[]⟩) hall hlt
    generalize y.getD k ⟨#[]⟩ = p at *
    refine aw_seq (aw_reg ?_)
    refine s_t (x_q (e_bin rfl rfl (dT (by omega))) rfl ?_)
    refine s_nil ?_
    refine aw_seq ((aw_ifT rfl (aw_skip ?_)))
    refine aw_seq (aw_block ?_)
    refine aw_seq (aw_reg ?_)
    refine s_t (x_q (e_move rfl) rfl ?_)
    refine s_t (x_q (e_assign rfl) rfl ?_)
    refine s_nil ?_
    cases hd : decide (p.size ≤ 20) with
    | true =>
      refine aw_seq (aw_reg ?_)
      refine s_t (x_q (e_move rfl) rfl ?_)
      refine s_t (x_q (e_move rfl) rfl ?_)
      refine s_t (x_q (e_move rfl) rfl ?_)
      refine s_t (x_q (e_ia rfl rfl (iaSl un28 sz9 hlt)) rfl ?_)
      refine s_t (x_q (e_load rfl (ld1 ag9 hg1 q1)) rfl ?_)
      refine s_t (x_pure rfl rfl rfl (fits11_c hd) ?_)
      refine s_nil ?_
      refine (aw_ifF rfl (aw_skip ?_))
      refine aw_reg ?_
      refine s_t (x_q (e_bin rfl rfl (b_addN _ 1 (by omega))) rfl ?_)
      refine s_t (x_q (e_move rfl) rfl ?_)
      refine s_nil ?_
      exact ⟨k + 1, ⟨by omega, good hd⟩, by omega, wk_tms (wk_cons rfl (wk_cons rfl (wk_cons rfl (wk_cons rfl wk_nil)))) sub_rfl (Nat.le_refl _)⟩
    | false =>
      refine aw_seq (aw_reg ?_)
      refine s_t (x_q (e_move rfl) rfl ?_)
      refine s_t (x_q (e_move rfl) rfl ?_)
      refine s_t (x_q (e_move rfl) rfl ?_)
      refine s_t (x_q (e_ia rfl rfl (iaSl un28 sz9 hlt)) rfl ?_)
      refine s_t (x_q (e_load rfl (ld1 ag9 hg1 q1)) rfl ?_)
      refine s_t (x_pure rfl rfl rfl (fits11_c hd) ?_)
      refine s_nil ?_
      refine (aw_ifT rfl ?_)
      refine aw_seq (aw_reg ?_)
      refine s_t (x_q (e_move rfl) rfl ?_)
      refine s_t (x_q (e_assign rfl) rfl ?_)
      refine s_nil ?_
      exact aw_ret (fn_ret rfl ⟨fun h => (by rw [bad hd] at h; cases h), fun _ => ⟨k, rfl⟩, rfl, rfl⟩)
  · refine aw_seq (aw_reg ?_)
    refine s_t (x_q (e_bin rfl rfl (dF (by omega))) rfl ?_)
    refine s_nil ?_
    refine aw_seq ((aw_ifF rfl (aw_exit ?_)))
    refine aw_seq (aw_reg ?_)
    refine s_t (x_q (e_assign rfl) rfl ?_)
    refine s_nil ?_
    exact aw_ret (fn_ret rfl ⟨fun _ => rfl, fun h => (by rw [all_end hall (by omega)] at h; cases h), rfl, rfl⟩)

theorem geT {a : Nat} : some (Value.bool (decide ((a : Int) ≥ 0))) = some (Value.bool true) := dT (by omega)

theorem has1_c {hp : Tr AObj} {nx : Nat} {v : Value} {y : List ByteArray} (hy : RdStrs hp v y) (hl : y.length < BIG) {b : Bool} (hb : y.all (fun p => decide (p.size ≤ 20)) = b) :
    ACall Tryz.prog 0 38 [v, .func (.func 39) #[] #[]] hp nx (fun v hp' nx' => v = .bool (!b) ∧ hp' = hp ∧ nx' = nx) := by
  refine acall_fn named7 Tryz.func38 rfl rfl ?_
  show AW _ _ _ _ ⟨tms [(1, .func (.func 39) #[] #[]), (0, v)], hp, nx, []⟩ _
  refine aw_seq (aw_reg ?_)
  refine s_t (x_q (e_assign rfl) rfl ?_)
  refine s_nil ?_
  cases b with
  | true =>
    refine aw_seq (aw_reg ?_)
    refine s_t (x_q (e_move rfl) rfl ?_)
    refine s_t (x_q (e_move rfl) rfl ?_)
    refine s_t (x_call rfl rfl rfl (idx1_c hy hl) ?_)
    rintro _ _ _ ⟨h, _, rfl, rfl⟩
    obtain rfl := h hb
    refine s_t (x_q (e_bin rfl rfl rfl) rfl ?_)
    refine s_t (x_q (e_assign rfl) rfl ?_)
    refine s_nil ?_
    exact aw_ret (fn_ret rfl ⟨rfl, rfl, rfl⟩)
  | false =>
    refine aw_seq (aw_reg ?_)
    refine s_t (x_q (e_move rfl) rfl ?_)
    refine s_t (x_q (e_move rfl) rfl ?_)
    refine s_t (x_call rfl rfl rfl (idx1_c hy hl) ?_)
    rintro _ _ _ ⟨_, h, rfl, rfl⟩
    obtain ⟨k, rfl⟩ := h hb
    refine s_t (x_q (e_bin rfl rfl geT) rfl ?_)
    refine s_t (x_q (e_assign rfl) rfl ?_)
    refine s_nil ?_
    exact aw_ret (fn_ret rfl ⟨rfl, rfl, rfl⟩)

theorem fits1_c {hp : Tr AObj} {nx : Nat} {v : Value} {y : List ByteArray} (hy : RdStrs hp v y) (hl : y.length < BIG) {b : Bool} (hb : fitEl y = b) :
    ACall Tryz.prog 0 37 [v] hp nx (fun v hp' nx' => v = .bool (!b) ∧ hp' = hp ∧ nx' = nx) := by
  have hy0 := hy
  obtain ⟨ba, ca, rfl, _⟩ := hy0
  refine acall_fn named7 Tryz.func37 rfl rfl ?_
  show AW _ _ _ _ ⟨tms [(0, .slice ba y.length ca)], hp, nx, []⟩ _
  subst hb
  by_cases h1 : y.length < 1
  · refine aw_seq (aw_reg ?_)
    refine s_t (x_q (e_assign rfl) rfl ?_)
    refine s_nil ?_
    refine aw_seq (aw_reg ?_)
    refine s_t (x_q (e_move rfl) rfl ?_)
    refine s_t (x_q (e_len rfl (lenSl un28)) rfl ?_)
    refine s_t (x_q (e_bin rfl rfl (dT (by omega))) rfl ?_)
    refine s_t (x_q (e_move rfl) rfl ?_)
    refine s_n rfl rfl ?_
    refine s_n rfl rfl ?_
    refine s_n rfl rfl ?_
    refine s_t (x_q (e_pickT rfl rfl rfl) rfl ?_)
    refine s_t (x_q (e_move rfl) rfl ?_)
    refine s_n rfl rfl ?_
    refine s_n rfl rfl ?_
    refine s_t (x_q (e_pickT rfl rfl rfl) rfl ?_)
    refine s_t (x_q (e_assign rfl) rfl ?_)
    refine s_nil ?_
    exact aw_ret (fn_ret rfl ⟨by unfold fitEl; rw [decide_eq_false (by omega)]; rfl, rfl, rfl⟩)
  by_cases h5 : 5 < y.length
  · refine aw_seq (aw_reg ?_)
    refine s_t (x_q (e_assign rfl) rfl ?_)
    refine s_nil ?_
    refine aw_seq (aw_reg ?_)
    refine s_t (x_q (e_move rfl) rfl ?_)
    refine s_t (x_q (e_len rfl (lenSl un28)) rfl ?_)
    refine s_t (x_q (e_bin rfl rfl (dF (by omega))) rfl ?_)
    refine s_t (x_q (e_move rfl) rfl ?_)
    refine s_g rfl (x_q (e_move rfl) rfl ?_)
    refine s_g rfl (x_q (e_len rfl (lenSl un28)) rfl ?_)
    refine s_g rfl (x_q (e_bin rfl rfl (dT (by omega))) rfl ?_)
    refine s_t (x_q (e_pickF rfl rfl rfl) rfl ?_)
    refine s_t (x_q (e_move rfl) rfl ?_)
    refine s_n rfl rfl ?_
    refine s_n rfl rfl ?_
    refine s_t (x_q (e_pickT rfl rfl rfl) rfl ?_)
    refine s_t (x_q (e_assign rfl) rfl ?_)
    refine s_nil ?_
    exact aw_ret (fn_ret rfl ⟨by unfold fitEl; rw [decide_eq_false (p := y.length ≤ 5) (by omega), Bool.and_false, Bool.false_and]; rfl, rfl, rfl⟩)
  cases ha : y.all (fun p => decide (p.size ≤ 20)) with
  | true =>
    refine aw_seq (aw_reg ?_)
    refine s_t (x_q (e_assign rfl) rfl ?_)
    refine s_nil ?_
    refine aw_seq (aw_reg ?_)
    refine s_t (x_q (e_move rfl) rfl ?_)
    refine s_t (x_q (e_len rfl (lenSl un28)) rfl ?_)
    refine s_t (x_q (e_bin rfl rfl (dF (by omega))) rfl ?_)
    refine s_t (x_q (e_move rfl) rfl ?_)
    refine s_g rfl (x_q (e_move rfl) rfl ?_)
    refine s_g rfl (x_q (e_len rfl (lenSl un28)) rfl ?_)
    refine s_g rfl (x_q (e_bin rfl rfl (dF (by omega))) rfl ?_)
    refine s_t (x_q (e_pickF rfl rfl rfl) rfl ?_)
    refine s_t (x_q (e_move rfl) rfl ?_)
    refine s_g rfl (x_q (e_move rfl) rfl ?_)
    refine s_g rfl (x_pure rfl rfl rfl (has1_c hy hl ha) ?_)
    refine s_t (x_q (e_pickF rfl rfl rfl) rfl ?_)
    refine s_t (x_q (e_assign rfl) rfl ?_)
    refine s_nil ?_
    exact aw_ret (fn_ret rfl ⟨by unfold fitEl; rw [decide_eq_true (by omega), decide_eq_true (by omega), ha]; rfl, rfl, rfl⟩)
  | false =>
    refine aw_seq (aw_reg ?_)
    refine s_t (x_q (e_assign rfl) rfl ?_)
    refine s_nil ?_
    refine aw_seq (aw_reg ?_)
    refine s_t (x_q (e_move rfl) rfl ?_)
    refine s_t (x_q (e_len rfl (lenSl un28)) rfl ?_)
    refine s_t (x_q (e_bin rfl rfl (dF (by omega))) rfl ?_)
    refine s_t (x_q (e_move rfl) rfl ?_)
    refine s_g rfl (x_q (e_move rfl) rfl ?_)
    refine s_g rfl (x_q (e_len rfl (lenSl un28)) rfl ?_)
    refine s_g rfl (x_q (e_bin rfl rfl (dF (by omega))) rfl ?_)
    refine s_t (x_q (e_pickF rfl rfl rfl) rfl ?_)
    refine s_t (x_q (e_move rfl) rfl ?_)
    refine s_g rfl (x_q (e_move rfl) rfl ?_)
    refine s_g rfl (x_pure rfl rfl rfl (has1_c hy hl ha) ?_)
    refine s_t (x_q (e_pickF rfl rfl rfl) rfl ?_)
    refine s_t (x_q (e_assign rfl) rfl ?_)
    refine s_nil ?_
    exact aw_ret (fn_ret rfl ⟨by unfold fitEl; rw [ha, Bool.and_false]; rfl, rfl, rfl⟩)

theorem idx2_c {hp : Tr AObj} {nx : Nat} {v : Value} {y : List (List ByteArray)} (hy : RdEls hp v y) (hf : FitsEls y) :
    ACall Tryz.prog 0 52 [v, .func (.func 37) #[] #[]] hp nx (fun v hp' nx' => (y.all fitEl = true → v = .int .i64 (-1)) ∧ (y.all fitEl = false → ∃ k : Nat, v = .int .i64 (k : Int)) ∧ hp' = hp ∧ nx' = nx) := by
  obtain ⟨hl, hyy⟩ := hf
  unfold BIG at hl
  obtain ⟨ba, ca, rfl, hy⟩ := hy
  refine acall_fn named7 Tryz.func52 rfl rfl ?_
  show AW _ _ _ _ ⟨tms [(1, .func (.func 37) #[] #[]), (0, .slice ba y.length ca)], hp, nx, []⟩ _
  refine aw_seq (aw_reg ?_)
  refine s_t (x_q (e_assign rfl) rfl ?_)
  refine s_nil ?_
  refine aw_seq (aw_seq (aw_reg ?_))
  refine s_t (x_q (e_move rfl) rfl ?_)
  refine s_t (x_q (e_len rfl (lenSl un29)) rfl ?_)
  refine s_t (x_q (e_move rfl) rfl ?_)
  refine s_nil ?_
  refine aw_block (aw_loop (α := Nat) (fun k => ⟨tms [(0, .slice ba y.length ca), (1, .func (.func 37) #[] #[]), (7, .int .i64 (y.length : Int)), (8, .int .i64 (k : Int))], hp, nx, []⟩) (fun k => k ≤ y.length ∧ (y.take k).all fitEl = true) (fun k => y.length - k) 0 ⟨Nat.zero_le _, by simp⟩ (wk_tms (wk_cons rfl (wk_cons rfl (wk_cons rfl (wk_cons rfl wk_nil)))) sub_rfl (Nat.le_refl _)) ?_)
  intro k ⟨hk, hall⟩
  by_cases hlt : k < y.length
  · obtain ⟨b1, o1, c1, e1, fz1, ro1, hd1, rfl, hg1, hc1⟩ := hy (by omega)
    obtain ⟨w, q1, hw⟩ := hc1 k hlt
    have bad := all_bad (f := fitEl) (getD_mem (d := []) hlt)
    have good := all_step (f := fitEl) (d := []) hall hlt
    have hly := (hyy _ (getD_mem (d := []) hlt)).1
    generalize y.getD k [] = p at *
    refine aw_seq (aw_reg ?_)
    refine s_t (x_q (e_bin rfl rfl (dT (by omega))) rfl ?_)
    refine s_nil ?_
    refine aw_seq ((aw_ifT rfl (aw_skip ?_)))
    refine aw_seq (aw_block ?_)
    refine aw_seq (aw_reg ?_)
    refine s_t (x_q (e_move rfl) rfl ?_)
    refine s_t (x_q (e_assign rfl) rfl ?_)
    refine s_nil ?_
    cases hd : fitEl p with
    | true =>
      refine aw_seq (aw_reg ?_)
      refine s_t (x_q (e_move rfl) rfl ?_)
      refine s_t (x_q (e_move rfl) rfl ?_)
      refine s_t (x_q (e_move rfl) rfl ?_)
      refine s_t (x_q (e_ia rfl rfl (iaSl un29 sz28 hlt)) rfl ?_)
      refine s_t (x_q (e_load rfl (ld1 ag28 hg1 q1)) rfl ?_)
      refine s_t (x_pure rfl rfl rfl (fits1_c hw hly hd) ?_)
      refine s_nil ?_
      refine (aw_ifF rfl (aw_skip ?_))
      refine aw_reg ?_
      refine s_t (x_q (e_bin rfl rfl (b_addN _ 1 (by omega))) rfl ?_)
      refine s_t (x_q (e_move rfl) rfl ?_)
      refine s_nil ?_
      exact ⟨k + 1, ⟨by omega, good hd⟩, by omega, wk_tms (wk_cons rfl (wk_cons rfl (wk_cons rfl (wk_cons rfl wk_nil)))) sub_rfl (Nat.le_refl _)⟩
    | false =>
      refine aw_seq (aw_reg ?_)
      refine s_t (x_q (e_move rfl) rfl ?_)
      refine s_t (x_q (e_move rfl) rfl ?_)
      refine s_t (x_q (e_move rfl) rfl ?_)
      refine s_t (x_q (e_ia rfl rfl (iaSl un29 sz28 hlt)) rfl ?_)
      refine s_t (x_q (e_load rfl (ld1 ag28 hg1 q1)) rfl ?_)
      refine s_t (x_pure rfl rfl rfl (fits1_c hw hly hd) ?_)
      refine s_nil ?_
      refine (aw_ifT rfl ?_)
      refine aw_seq (aw_reg ?_)
      refine s_t (x_q (e_move rfl) rfl ?_)
      refine s_t (x_q (e_assign rfl) rfl ?_)
      refine s_nil ?_
      exact aw_ret (fn_ret rfl ⟨fun h => (by rw [bad hd] at h; cases h), fun _ => ⟨k, rfl⟩, rfl, rfl⟩)
  · refine aw_seq (aw_reg ?_)
    refine s_t (x_q (e_bin rfl rfl (dF (by omega))) rfl ?_)
    refine s_nil ?_
    refine aw_seq ((aw_ifF rfl (aw_exit ?_)))
    refine aw_seq (aw_reg ?_)
    refine s_t (x_q (e_assign rfl) rfl ?_)
    refine s_nil ?_
    exact aw_ret (fn_ret rfl ⟨fun _ => rfl, fun h => (by rw [all_end hall (by omega)] at h; cases h), rfl, rfl⟩)

theorem has2_c {hp : Tr AObj} {nx : Nat} {v : Value} {y : List (List ByteArray)} (hy : RdEls hp v y) (hf : FitsEls y) {b : Bool} (hb : y.all fitEl = b) :
    ACall Tryz.prog 0 36 [v, .func (.func 37) #[] #[]] hp nx (fun v hp' nx' => v = .bool (!b) ∧ hp' = hp ∧ nx' = nx) := by
  refine acall_fn named7 Tryz.func36 rfl rfl ?_
  show AW _ _ _ _ ⟨tms [(1, .func (.func 37) #[] #[]), (0, v)], hp, nx, []⟩ _
  refine aw_seq (aw_reg ?_)
  refine s_t (x_q (e_assign rfl) rfl ?_)
  refine s_nil ?_
  cases b with
  | true =>
    refine aw_seq (aw_reg ?_)
    refine s_t (x_q (e_move rfl) rfl ?_)
    refine s_t (x_q (e_move rfl) rfl ?_)
    refine s_t (x_call rfl rfl rfl (idx2_c hy hf) ?_)
    rintro _ _ _ ⟨h, _, rfl, rfl⟩
    obtain rfl := h hb
    refine s_t (x_q (e_bin rfl rfl rfl) rfl ?_)
    refine s_t (x_q (e_assign rfl) rfl ?_)
    refine s_nil ?_
    exact aw_ret (fn_ret rfl ⟨rfl, rfl, rfl⟩)
  | false =>
    refine aw_seq (aw_reg ?_)
    refine s_t (x_q (e_move rfl) rfl ?_)
    refine s_t (x_q (e_move rfl) rfl ?_)
    refine s_t (x_call rfl rfl rfl (idx2_c hy hf) ?_)
    rintro _ _ _ ⟨_, h, rfl, rfl⟩
    obtain ⟨k, rfl⟩ := h hb
    refine s_t (x_q (e_bin rfl rfl geT) rfl ?_)
    refine s_t (x_q (e_assign rfl) rfl ?_)
    refine s_nil ?_
    exact aw_ret (fn_ret rfl ⟨rfl, rfl, rfl⟩)

theorem fits_c {hp : Tr AObj} {nx : Nat} {tag : ByteArray} {u : Value} {els : List (List ByteArray)} (hu : RdEls hp u els) (hfit : FitsEls els) (hf : Fr hp nx) {b : Bool} (hb : fitEls els = b) :
    ACall Tryz.prog 0 19 [.agg #[.string tag, u]] hp nx (fun v hp' nx' => v = .bool b ∧ hp' = hp ∧ nx' = nx) := by
  refine ACall.pure (S := fun v hp' _ => v = .bool b ∧ Sub hp hp') ?_ (fun v hp' nx' h => h) rfl
  refine acall_fn named7 Tryz.func19 rfl rfl ?_
  show AW _ _ _ _ ⟨tms [(0, .agg #[.string tag, u])], hp, nx, []⟩ _
  refine aw_seq (aw_reg ?_)
  refine s_t (x_box rfl sz31 rfl ?_)
  refine s_t (x_q (e_assign rfl) rfl ?_)
  refine s_nil ?_
  generalize hh : hp.set nx _ = hp1
  have hx : hp1.get nx = some (.cells [.string tag, u] 31 2 0 false true) := by rw [← hh]; exact Tr.get_set_same _ _ _
  have hs : Sub hp hp1 := by rw [← hh]; exact hf.sub _
  clear hh
  replace hu := hu.mono hs
  have hu0 := hu
  obtain ⟨ba, ca, rfl, _⟩ := hu0
  subst hb
  by_cases h8 : els.length ≤ 8
  case neg =>
    refine aw_seq (aw_reg ?_)
    refine s_t (x_q (e_fa rfl (fa31_1 _ _)) rfl ?_)
    refine s_t (x_q (e_load rfl (ld1 ag29 hx rfl)) rfl ?_)
    refine s_t (x_q (e_len rfl (lenSl un29)) rfl ?_)
    refine s_t (x_q (e_bin rfl rfl (dF (by omega))) rfl ?_)
    refine s_t (x_q (e_move rfl) rfl ?_)
    refine s_n rfl rfl ?_
    refine s_n rfl rfl ?_
    refine s_n rfl rfl ?_
    refine s_n rfl rfl ?_
    refine s_t (x_q (e_pickF rfl rfl rfl) rfl ?_)
    refine s_t (x_q (e_assign rfl) rfl ?_)
    refine s_nil ?_
    exact aw_ret (fn_ret rfl ⟨by unfold fitEls; rw [decide_eq_false h8]; rfl, hs⟩)
  cases ha : els.all fitEl with
  | true =>
    refine aw_seq (aw_reg ?_)
    refine s_t (x_q (e_fa rfl (fa31_1 _ _)) rfl ?_)
    refine s_t (x_q (e_load rfl (ld1 ag29 hx rfl)) rfl ?_)
    refine s_t (x_q (e_len rfl (lenSl un29)) rfl ?_)
    refine s_t (x_q (e_bin rfl rfl (dT (by omega))) rfl ?_)
    refine s_t (x_q (e_move rfl) rfl ?_)
    refine s_g rfl (x_q (e_fa rfl (fa31_1 _ _)) rfl ?_)
    refine s_g rfl (x_q (e_load rfl (ld1 ag29 hx rfl)) rfl ?_)
    refine s_g rfl (x_pure rfl rfl rfl (has2_c hu hfit ha) ?_)
    refine s_g rfl (x_q (e_un rfl rfl) rfl ?_)
    refine s_t (x_q (e_pickT rfl rfl rfl) rfl ?_)
    refine s_t (x_q (e_assign rfl) rfl ?_)
    refine s_nil ?_
    exact aw_ret (fn_ret rfl ⟨by unfold fitEls; rw [decide_eq_true h8, ha]; rfl, hs⟩)
  | false =>
    refine aw_seq (aw_reg ?_)
    refine s_t (x_q (e_fa rfl (fa31_1 _ _)) rfl ?_)
    refine s_t (x_q (e_load rfl (ld1 ag29 hx rfl)) rfl ?_)
    refine s_t (x_q (e_len rfl (lenSl un29)) rfl ?_)
    refine s_t (x_q (e_bin rfl rfl (dT (by omega))) rfl ?_)
    refine s_t (x_q (e_move rfl) rfl ?_)
    refine s_g rfl (x_q (e_fa rfl (fa31_1 _ _)) rfl ?_)
    refine s_g rfl (x_q (e_load rfl (ld1 ag29 hx rfl)) rfl ?_)
    refine s_g rfl (x_pure rfl rfl rfl (has2_c hu hfit ha) ?_)
    refine s_g rfl (x_q (e_un rfl rfl) rfl ?_)
    refine s_t (x_q (e_pickT rfl rfl rfl) rfl ?_)
    refine s_t (x_q (e_assign rfl) rfl ?_)
    refine s_nil ?_
    exact aw_ret (fn_ret rfl ⟨by unfold fitEls; rw [ha, Bool.and_false]; rfl, hs⟩)
end Go.Proofs.YtkjkoejnicbieaaGreat.AM

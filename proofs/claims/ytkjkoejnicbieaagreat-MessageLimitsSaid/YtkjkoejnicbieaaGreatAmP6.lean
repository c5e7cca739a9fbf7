/-
  The message's functions, walked: the reference's 'Print'.
-/
import Derived.Test.YtkjkoejnicbieaaGreatAmP5
import Derived.Test.YtkjkoejnicbieaaGreatAmD2
namespace Go.Proofs.YtkjkoejnicbieaaGreat.AM
open Go Go.RowKit

/-! ### The text of a message -/
def esc (l : List UInt8) : List UInt8 := l.flatMap fun c => if isSign c then [63, c] else [c]
def prPart (j : Nat) (p : ByteArray) : List UInt8 := (if j = 0 then 43 else 58) :: esc p.data.toList
/-- The text of the first parts of an element. -/
def prElN (e : List ByteArray) : Nat → List UInt8
  | 0 => []
  | n + 1 => prElN e n ++ prPart n (e.getD n ⟨#[]⟩)
def prEl (e : List ByteArray) : List UInt8 := prElN e e.length
def prElsN (es : List (List ByteArray)) : Nat → List UInt8
  | 0 => []
  | n + 1 => prElsN es n ++ prEl (es.getD n [])
def prSeg (x : Seg) : List UInt8 := x.tag.data.toList ++ prElsN x.els x.els.length ++ [39]
def prMsgN (m : List Seg) : Nat → List UInt8
  | 0 => []
  | n + 1 => prMsgN m n ++ prSeg (m.getD n default)
def prMsg (m : List Seg) : List UInt8 := prMsgN m m.length
def okMsg (m : List Seg) : Bool := decide (m.length ≤ 60) && m.all okSeg
/-- What 'Print' hands back. -/
def prV (m : List Seg) : Value := if okMsg m = true then .tuple #[.string ⟨(prMsg m).toArray⟩, .int .i64 0] else .tuple #[.string ⟨#[]⟩, .int .i64 2]

theorem esc_snoc (l : List UInt8) (c : UInt8) : esc (l ++ [c]) = esc l ++ (if isSign c then [63, c] else [c]) := by simp [esc]
theorem take_snoc {α : Type} {l : List α} {d : α} {k : Nat} (hk : k < l.length) : l.take (k + 1) = l.take k ++ [l.getD k d] := by
  rw [List.take_succ_eq_append_getElem hk, List.getD_eq_getElem?_getD, List.getElem?_eq_getElem hk]; rfl

structure LS where
  i : Nat
  ob : Option Nat
  hp : Tr AObj
  nx : Nat

theorem Gr.sub {hp hp' : Tr AObj} {nx nx' : Nat} {ob' : Option Nat} (h : Gr hp nx none hp' nx' ob') (hf : Fr hp nx) : Sub hp hp' := fun i o e => by
  rw [h.frame i (hf i o e) (fun h => by cases h)]; exact e

theorem tag_len {s : ByteArray} (h : isTag s.data.toList = true) : s.size = 2 ∨ s.size = 3 := by
  unfold isTag at h
  rw [size_list] at h
  simp only [Bool.and_eq_true, Bool.or_eq_true, beq_iff_eq] at h
  exact h.1

set_option maxHeartbeats 2000000 in
theorem rprint_c {hp : Tr AObj} {nx : Nat} {v : Value} {m : List Seg} (hm : RdMsg hp v m) (hfit : Fits m) (hf : Fr hp nx) :
    ACall Tryz.prog 0 10 [v] hp nx (fun v hp' nx' => v = prV m ∧ hp' = hp ∧ nx' = nx) := by
  obtain ⟨hlm, hfit⟩ := hfit
  unfold BIG at hlm
  refine ACall.pure (S := fun v hp' _ => v = prV m ∧ Sub hp hp') ?_ (fun v hp' nx' h => h) (by unfold prV; split <;> rfl)
  obtain ⟨ba, ca, rfl, hm⟩ := hm
  refine acall_fn named7 Tryz.func10 rfl rfl ?_
  show AW _ _ _ _ ⟨tms [(0, .slice ba m.length ca)], hp, nx, []⟩ _
  by_cases h60 : m.length ≤ 60
  case neg =>
    refine aw_seq (aw_reg ?_)
    refine s_t (x_q (e_assign rfl) rfl ?_)
    refine s_t (x_q (e_assign rfl) rfl ?_)
    refine s_nil ?_
    refine aw_seq (aw_seq (aw_reg ?_))
    refine s_t (x_q (e_move rfl) rfl ?_)
    refine s_t (x_q (e_len rfl (lenSl un22)) rfl ?_)
    refine s_t (x_q (e_bin rfl rfl (dT (by omega))) rfl ?_)
    refine s_nil ?_
    refine (aw_ifT rfl ?_)
    refine aw_seq (aw_reg ?_)
    refine s_t (x_q (e_assign rfl) rfl ?_)
    refine s_t (x_q (e_assign rfl) rfl ?_)
    refine s_nil ?_
    exact aw_ret (fn_ret rfl ⟨by unfold prV okMsg; rw [decide_eq_false h60]; rfl, Sub.refl _⟩)
  refine aw_seq (aw_reg ?_)
  refine s_t (x_q (e_assign rfl) rfl ?_)
  refine s_t (x_q (e_assign rfl) rfl ?_)
  refine s_nil ?_
  refine aw_seq (aw_seq (aw_reg ?_))
  refine s_t (x_q (e_move rfl) rfl ?_)
  refine s_t (x_q (e_len rfl (lenSl un22)) rfl ?_)
  refine s_t (x_q (e_bin rfl rfl (dF (by omega))) rfl ?_)
  refine s_nil ?_
  refine (aw_ifF rfl (aw_skip ?_))
  refine aw_seq (aw_reg ?_)
  refine s_t (x_q (e_assign rfl) rfl ?_)
  refine s_nil ?_
  refine aw_seq (aw_seq (aw_reg ?_))
  refine s_t (x_q (e_assign rfl) rfl ?_)
  refine s_nil ?_
  refine aw_block (aw_loop (α := LS) (fun x => ⟨tms [(0, .slice ba m.length ca), (4, ownV x.ob (prMsgN m x.i).length), (5, .int .i64 (x.i : Int))], x.hp, x.nx, []⟩) (fun x => x.i ≤ m.length ∧ (m.take x.i).all okSeg = true ∧ OwnB x.hp x.nx x.ob (prMsgN m x.i) ∧ Gr hp nx none x.hp x.nx x.ob ∧ (prMsgN m x.i).length ≤ 1644 * x.i) (fun x => m.length - x.i) ⟨0, none, hp, nx⟩ ⟨Nat.zero_le _, by simp, Own.nil _ _ _ _, Gr.refl _ _ _, Nat.zero_le _⟩ (wk_tms (wk_cons rfl (wk_cons rfl (wk_cons rfl wk_nil))) sub_rfl (Nat.le_refl _)) ?_)
  rintro ⟨i, ob, h1, n1⟩ ⟨hi, hall, hown, hgr, hlen⟩
  simp only at hi hall hown hgr hlen
  dsimp only
  by_cases hlt : i < m.length
  · obtain ⟨b1, o1, c1, e1, fz1, ro1, hd1, rfl, hg1, hc1⟩ := hm (by omega)
    obtain ⟨q1, u, q2, he⟩ := hc1 i hlt
    obtain ⟨_, hle, hyy⟩ := hfit _ (getD_mem (d := default) hlt)
    have bad : okSeg (m.getD i default) = false → prV m = .tuple #[.string ⟨#[]⟩, .int .i64 2] := fun h => by
      unfold prV okMsg; rw [all_bad (getD_mem hlt) h, Bool.and_false]; rfl
    have good := all_step (d := default) hall hlt
    have hM : prMsgN m (i + 1) = prMsgN m i ++ prSeg (m.getD i default) := rfl
    generalize m.getD i default = x at *
    obtain ⟨tag, els⟩ := x
    simp only at q1 he hle hyy
    have hs1 := hgr.sub hf
    refine aw_seq (aw_seq (aw_reg ?_))
    refine s_t (x_q (e_move rfl) rfl ?_)
    refine s_t (x_q (e_move rfl) rfl ?_)
    refine s_t (x_q (e_len rfl (lenSl un22)) rfl ?_)
    refine s_t (x_q (e_bin rfl rfl (dT (by omega))) rfl ?_)
    refine s_nil ?_
    refine (aw_ifT rfl (aw_skip ?_))
    refine aw_seq (aw_block ?_)
    obtain ⟨tk1, tk2⟩ := take_two q1 q2
    cases hok : okSeg ⟨tag, els⟩ with
    | false =>
      refine aw_seq (aw_seq (aw_reg ?_))
      refine s_t (x_q (e_move rfl) rfl ?_)
      refine s_t (x_q (e_move rfl) rfl ?_)
      refine s_t (x_q (e_ia rfl rfl (iaSl un22 sz31 hlt)) rfl ?_)
      refine s_t (x_q (e_load rfl (ldN ag31 sz31 (hs1 _ _ hg1) tk2 tk1)) rfl ?_)
      refine s_t (x_pure rfl rfl rfl (rseg_c (he.mono hs1) ⟨hle, hyy⟩ (hgr.fr hf) hok) ?_)
      refine s_t (x_q (e_un rfl rfl) rfl ?_)
      refine s_nil ?_
      refine (aw_ifT rfl ?_)
      refine aw_seq (aw_reg ?_)
      refine s_t (x_q (e_assign rfl) rfl ?_)
      refine s_t (x_q (e_assign rfl) rfl ?_)
      refine s_nil ?_
      exact aw_ret (fn_ret rfl ⟨(bad hok).symm, hs1⟩)
    | true =>
    have hok0 := hok
    unfold okSeg at hok
    simp only [Bool.and_eq_true, decide_eq_true_eq] at hok
    obtain ⟨⟨htag, h8⟩, hels⟩ := hok
    have htl := tag_len htag
    refine aw_seq (aw_seq (aw_reg ?_))
    refine s_t (x_q (e_move rfl) rfl ?_)
    refine s_t (x_q (e_move rfl) rfl ?_)
    refine s_t (x_q (e_ia rfl rfl (iaSl un22 sz31 hlt)) rfl ?_)
    refine s_t (x_q (e_load rfl (ldN ag31 sz31 (hs1 _ _ hg1) tk2 tk1)) rfl ?_)
    refine s_t (x_pure rfl rfl rfl (rseg_c (he.mono hs1) ⟨hle, hyy⟩ (hgr.fr hf) hok0) ?_)
    refine s_t (x_q (e_un rfl rfl) rfl ?_)
    refine s_nil ?_
    refine (aw_ifF rfl (aw_skip ?_))
    obtain ⟨ob2, h2, n2, happ, hown2, hgr2⟩ := appStr hown tag (by omega)
    have hgr2 := hgr.trans hgr2
    refine aw_seq (aw_reg ?_)
    refine s_t (x_q (e_move rfl) rfl ?_)
    refine s_t (x_q (e_move rfl) rfl ?_)
    refine s_t (x_q (e_move rfl) rfl ?_)
    refine s_t (x_q (e_ia rfl rfl (iaSl un22 sz31 hlt)) rfl ?_)
    refine s_t (x_q (e_fa rfl (fa31_0 _ _)) rfl ?_)
    refine s_t (x_q (e_load rfl (ld1 ag9 (hs1 _ _ hg1) q1)) rfl ?_)
    refine s_t (x_app rfl rfl happ rfl ?_)
    refine s_t (x_q (e_assign rfl) rfl ?_)
    refine s_nil ?_
    refine aw_seq (aw_seq (aw_reg ?_))
    refine s_t (x_q (e_assign rfl) rfl ?_)
    refine s_nil ?_
    have hts := size_list tag
    have hl2 : (prMsgN m i ++ tag.data.toList).length ≤ 1644 * i + 3 := by rw [List.length_append]; omega
    generalize hL : prMsgN m i ++ tag.data.toList = L at *
    clear happ hown hgr
    refine aw_block (aw_loop (α := LS) (fun x => ⟨tms [(0, .slice (some ⟨b1, o1, none⟩) m.length ca), (4, ownV x.ob (L ++ prElsN els x.i).length), (5, .int .i64 (i : Int)), (6, .int .i64 (x.i : Int))], x.hp, x.nx, []⟩) (fun x => x.i ≤ els.length ∧ OwnB x.hp x.nx x.ob (L ++ prElsN els x.i) ∧ Gr hp nx none x.hp x.nx x.ob ∧ (L ++ prElsN els x.i).length ≤ 1644 * i + 3 + 205 * x.i) (fun x => els.length - x.i) ⟨0, ob2, h2, n2⟩ ⟨Nat.zero_le _, by simpa [prElsN] using hown2, hgr2, by simpa [prElsN] using hl2⟩ (wk_tms (wk_cons rfl (wk_cons (by simp only [prElsN, List.append_nil]; rfl) (wk_cons rfl (wk_cons rfl wk_nil)))) sub_rfl (Nat.le_refl _)) ?_)
    rintro ⟨k, ob3, h3, n3⟩ ⟨hk, hown3, hgr3, hl3⟩
    simp only at hk hown3 hgr3 hl3
    dsimp only
    have hs3 := hgr3.sub hf
    have hek := he
    obtain ⟨be, ce, rfl, hek⟩ := hek
    by_cases hltk : k < els.length
    · obtain ⟨b2, o2, c2, e2, fz2, ro2, hd2, rfl, hg2, hc2⟩ := hek (by omega)
      obtain ⟨w, q3, hy⟩ := hc2 k hltk
      obtain ⟨hly, hss⟩ := hyy _ (getD_mem (d := []) hltk)
      have hyok : okEl (els.getD k []) = true := List.all_eq_true.1 hels _ (getD_mem hltk)
      have hE : prElsN els (k + 1) = prElsN els k ++ prEl (els.getD k []) := rfl
      generalize els.getD k [] = y at *
      unfold okEl at hyok
      simp only [Bool.and_eq_true, decide_eq_true_eq] at hyok
      obtain ⟨⟨hy1, hy5⟩, hps⟩ := hyok
      refine aw_seq (aw_seq (aw_reg ?_))
      refine s_t (x_q (e_move rfl) rfl ?_)
      refine s_t (x_q (e_move rfl) rfl ?_)
      refine s_t (x_q (e_move rfl) rfl ?_)
      refine s_t (x_q (e_ia rfl rfl (iaSl un22 sz31 hlt)) rfl ?_)
      refine s_t (x_q (e_fa rfl (fa31_1 _ _)) rfl ?_)
      refine s_t (x_q (e_load rfl (ld1 ag29 (hs3 _ _ hg1) q2)) rfl ?_)
      refine s_t (x_q (e_len rfl (lenSl un29)) rfl ?_)
      refine s_t (x_q (e_bin rfl rfl (dT (by omega))) rfl ?_)
      refine s_nil ?_
      refine (aw_ifT rfl (aw_skip ?_))
      refine aw_seq (aw_block ?_)
      refine aw_seq (aw_reg ?_)
      refine s_t (x_q (e_assign rfl) rfl ?_)
      refine s_nil ?_
      generalize hL2 : L ++ prElsN els k = L2 at *
      refine aw_block (aw_loop (α := LS) (fun x => ⟨tms [(0, .slice (some ⟨b1, o1, none⟩) m.length ca), (4, ownV x.ob (L2 ++ prElN y x.i).length), (5, .int .i64 (i : Int)), (6, .int .i64 (k : Int)), (7, .int .i64 (x.i : Int))], x.hp, x.nx, []⟩) (fun x => x.i ≤ y.length ∧ OwnB x.hp x.nx x.ob (L2 ++ prElN y x.i) ∧ Gr hp nx none x.hp x.nx x.ob ∧ (L2 ++ prElN y x.i).length ≤ 1644 * i + 3 + 205 * k + 41 * x.i) (fun x => y.length - x.i) ⟨0, ob3, h3, n3⟩ ⟨Nat.zero_le _, by simpa [prElN] using hown3, hgr3, by simpa [prElN] using hl3⟩ (wk_tms (wk_cons rfl (wk_cons (by simp only [prElN, List.append_nil]; rfl) (wk_cons rfl (wk_cons rfl (wk_cons rfl wk_nil))))) sub_rfl (Nat.le_refl _)) ?_)
      rintro ⟨j, ob4, h4, n4⟩ ⟨hj, hown4, hgr4, hl4⟩
      simp only at hj hown4 hgr4 hl4
      dsimp only
      have hs4 := hgr4.sub hf
      have hyj := hy
      obtain ⟨by_, cy, rfl, hyj⟩ := hyj
      by_cases hltj : j < y.length
      · obtain ⟨b3, o3, c3, e3, fz3, ro3, hd3, rfl, hg3, hc3⟩ := hyj (by omega)
        obtain ⟨z, q4, rfl⟩ := hc3 j hltj
        have hpok : okPart (y.getD j ⟨#[]⟩) = true := List.all_eq_true.1 hps _ (getD_mem hltj)
        have hP : prElN y (j + 1) = prElN y j ++ prPart j (y.getD j ⟨#[]⟩) := rfl
        generalize y.getD j ⟨#[]⟩ = p at *
        unfold okPart at hpok
        simp only [Bool.and_eq_true, decide_eq_true_eq] at hpok
        obtain ⟨hp20, _⟩ := hpok
        have hpl := size_list p
        refine aw_seq (aw_seq (aw_reg ?_))
        refine s_t (x_q (e_move rfl) rfl ?_)
        refine s_t (x_q (e_move rfl) rfl ?_)
        refine s_t (x_q (e_move rfl) rfl ?_)
        refine s_t (x_q (e_ia rfl rfl (iaSl un22 sz31 hlt)) rfl ?_)
        refine s_t (x_q (e_fa rfl (fa31_1 _ _)) rfl ?_)
        refine s_t (x_q (e_load rfl (ld1 ag29 (hs4 _ _ hg1) q2)) rfl ?_)
        refine s_t (x_q (e_move rfl) rfl ?_)
        refine s_t (x_q (e_ia rfl rfl (iaSl un29 sz28 hltk)) rfl ?_)
        refine s_t (x_q (e_load rfl (ld1 ag28 (hs4 _ _ hg2) q3)) rfl ?_)
        refine s_t (x_q (e_len rfl (lenSl un28)) rfl ?_)
        refine s_t (x_q (e_bin rfl rfl (dT (by omega))) rfl ?_)
        refine s_nil ?_
        refine (aw_ifT rfl (aw_skip ?_))
        refine aw_seq (aw_block ?_)
        have tail : ∀ (l0 : List (Nat × Value)) (ob5 : Option Nat) (h5 : Tr AObj) (n5 : Nat), lk l0 0 = some (.slice (some ⟨b1, o1, none⟩) m.length ca) → lk l0 4 = some (ownV ob5 (L2 ++ prElN y j ++ [if j = 0 then 43 else 58]).length) → lk l0 5 = some (.int .i64 (i : Int)) → lk l0 6 = some (.int .i64 (k : Int)) → lk l0 7 = some (.int .i64 (j : Int)) → OwnB h5 n5 ob5 (L2 ++ prElN y j ++ [if j = 0 then 43 else 58]) → Gr hp nx none h5 n5 ob5 → Wk ⟨tms l0, h5, n5, []⟩ ⟨tms [(0, .slice (some ⟨b1, o1, none⟩) m.length ca), (4, ownV ob5 (L2 ++ prElN y j ++ [if j = 0 then 43 else 58]).length), (5, .int .i64 (i : Int)), (6, .int .i64 (k : Int)), (7, .int .i64 (j : Int))], h5, n5, []⟩ :=
          fun l0 ob5 h5 n5 a0 a4 a5 a6 a7 _ _ => wk_tms (wk_cons a0 (wk_cons a4 (wk_cons a5 (wk_cons a6 (wk_cons a7 wk_nil))))) sub_rfl (Nat.le_refl _)
        obtain ⟨ob5, h5, n5, happ, hown5, hgr5⟩ := appByte hown4 (if j = 0 then 43 else 58) (by omega)
        have hgr5 := hgr4.trans hgr5
        have hl5 : (L2 ++ prElN y j ++ [if j = 0 then 43 else 58]).length ≤ 1644 * i + 3 + 205 * k + 41 * j + 1 := by rw [List.length_append]; simp only [List.length_singleton]; omega
        refine aw_seq (aw_mono (Q := fun x s => x = .normal ∧ Wk s ⟨tms [(0, .slice (some ⟨b1, o1, none⟩) m.length ca), (4, ownV ob5 (L2 ++ prElN y j ++ [if j = 0 then 43 else 58]).length), (5, .int .i64 (i : Int)), (6, .int .i64 (k : Int)), (7, .int .i64 (j : Int))], h5, n5, []⟩) ?_ ?_)
        · by_cases hj0 : j = 0
          · rw [if_pos hj0] at happ hown5 ⊢
            rw [if_pos hj0] at tail
            refine aw_seq (aw_reg ?_)
            refine s_t (x_q (e_move rfl) rfl ?_)
            refine s_t (x_q (e_bin rfl rfl (eT (by omega))) rfl ?_)
            refine s_nil ?_
            refine (aw_ifT rfl ?_)
            refine aw_reg ?_
            refine s_t (x_q (e_move rfl) rfl ?_)
            refine s_t (x_bs rfl (bs34 _ _) rfl ?_)
            refine s_t (x_app rfl rfl happ rfl ?_)
            refine s_t (x_q (e_assign rfl) rfl ?_)
            refine s_nil ?_
            exact ⟨rfl, tail _ _ _ _ rfl rfl rfl rfl rfl hown5 hgr5⟩
          · rw [if_neg hj0] at happ hown5 ⊢
            rw [if_neg hj0] at tail
            refine aw_seq (aw_reg ?_)
            refine s_t (x_q (e_move rfl) rfl ?_)
            refine s_t (x_q (e_bin rfl rfl (eF (by omega))) rfl ?_)
            refine s_nil ?_
            refine (aw_ifF rfl ?_)
            refine aw_reg ?_
            refine s_t (x_q (e_move rfl) rfl ?_)
            refine s_t (x_bs rfl (bs34 _ _) rfl ?_)
            refine s_t (x_app rfl rfl happ rfl ?_)
            refine s_t (x_q (e_assign rfl) rfl ?_)
            refine s_nil ?_
            exact ⟨rfl, tail _ _ _ _ rfl rfl rfl rfl rfl hown5 hgr5⟩
        rintro _ s ⟨rfl, hwk⟩
        refine aw_wk hwk ?_
        clear hwk tail happ hown4 hgr4
        have hs5 := hgr5.sub hf
        generalize hL3 : L2 ++ prElN y j ++ [if j = 0 then 43 else 58] = L3 at *
        refine aw_seq (aw_reg ?_)
        refine s_t (x_q (e_move rfl) rfl ?_)
        refine s_t (x_q (e_move rfl) rfl ?_)
        refine s_t (x_q (e_ia rfl rfl (iaSl un22 sz31 hlt)) rfl ?_)
        refine s_t (x_q (e_fa rfl (fa31_1 _ _)) rfl ?_)
        refine s_t (x_q (e_load rfl (ld1 ag29 (hs5 _ _ hg1) q2)) rfl ?_)
        refine s_t (x_q (e_move rfl) rfl ?_)
        refine s_t (x_q (e_ia rfl rfl (iaSl un29 sz28 hltk)) rfl ?_)
        refine s_t (x_q (e_load rfl (ld1 ag28 (hs5 _ _ hg2) q3)) rfl ?_)
        refine s_t (x_q (e_move rfl) rfl ?_)
        refine s_t (x_q (e_ia rfl rfl (iaSl un28 sz9 hltj)) rfl ?_)
        refine s_t (x_q (e_load rfl (ld1 ag9 (hs5 _ _ hg3) q4)) rfl ?_)
        refine s_t (x_q (e_assign rfl) rfl ?_)
        refine s_nil ?_
        refine aw_seq (aw_reg ?_)
        refine s_t (x_q (e_assign rfl) rfl ?_)
        refine s_nil ?_
        refine aw_block (aw_loop (α := LS) (fun x => ⟨tms [(0, .slice (some ⟨b1, o1, none⟩) m.length ca), (4, ownV x.ob (L3 ++ esc (p.data.toList.take x.i)).length), (5, .int .i64 (i : Int)), (6, .int .i64 (k : Int)), (7, .int .i64 (j : Int)), (8, .string p), (9, .int .i64 (x.i : Int))], x.hp, x.nx, []⟩) (fun x => x.i ≤ p.size ∧ OwnB x.hp x.nx x.ob (L3 ++ esc (p.data.toList.take x.i)) ∧ Gr hp nx none x.hp x.nx x.ob ∧ (L3 ++ esc (p.data.toList.take x.i)).length ≤ 1644 * i + 3 + 205 * k + 41 * j + 1 + 2 * x.i) (fun x => p.size - x.i) ⟨0, ob5, h5, n5⟩ ⟨Nat.zero_le _, by simpa [esc] using hown5, hgr5, by simpa [esc] using hl5⟩ (wk_tms (wk_cons rfl (wk_cons (by simp only [List.take_zero, esc, List.flatMap_nil, List.append_nil]; rfl) (wk_cons rfl (wk_cons rfl (wk_cons rfl (wk_cons rfl (wk_cons rfl wk_nil))))))) sub_rfl (Nat.le_refl _)) ?_)
        rintro ⟨n, ob6, h6, n6⟩ ⟨hn, hown6, hgr6, hl6⟩
        simp only at hn hown6 hgr6 hl6
        dsimp only
        by_cases hltn : n < p.size
        · have hkl : n < p.data.toList.length := by omega
          have hget := getD_some (d := (0 : UInt8)) hkl
          have hsn := take_snoc (d := (0 : UInt8)) hkl
          generalize p.data.toList.getD n 0 = c at *
          refine aw_seq (aw_seq (aw_reg ?_))
          refine s_t (x_q (e_move rfl) rfl ?_)
          refine s_t (x_q (e_move rfl) rfl ?_)
          refine s_t (x_q (e_len rfl (lenStr un9)) rfl ?_)
          refine s_t (x_q (e_bin rfl rfl (dT (by omega))) rfl ?_)
          refine s_nil ?_
          refine (aw_ifT rfl (aw_skip ?_))
          refine aw_seq (aw_block ?_)
          cases hsg : isSign c with
          | true =>
            have he2 : esc (p.data.toList.take (n + 1)) = esc (p.data.toList.take n) ++ [63] ++ [c] := by rw [hsn, esc_snoc, if_pos hsg, List.append_assoc]; rfl
            obtain ⟨ob7, h7, n7, happ7, hown7, hgr7⟩ := appByte hown6 63 (by omega)
            have hgr7 := hgr6.trans hgr7
            obtain ⟨ob8, h8_, n8, happ8, hown8, hgr8⟩ := appByte hown7 c (by rw [List.length_append]; simp only [List.length_singleton]; omega)
            have hgr8 := hgr7.trans hgr8
            have hl8 : (L3 ++ esc (p.data.toList.take (n + 1))).length ≤ 1644 * i + 3 + 205 * k + 41 * j + 1 + 2 * (n + 1) := by
              rw [he2, ← List.append_assoc, ← List.append_assoc, List.length_append, List.length_append]; simp only [List.length_singleton]; omega
            have hcomb : L3 ++ esc (p.data.toList.take n) ++ [63] ++ [c] = L3 ++ esc (p.data.toList.take (n + 1)) := by rw [he2]; simp only [List.append_assoc]
            rw [hcomb] at hown8 happ8
            refine aw_seq (aw_seq (aw_reg ?_))
            refine s_t (x_q (e_move rfl) rfl ?_)
            refine s_t (x_q (e_move rfl) rfl ?_)
            refine s_t (x_q (e_ix rfl rfl (ixStr un9 hget)) rfl ?_)
            refine s_t (x_pure rfl rfl rfl (rsign_c hsg) ?_)
            refine s_nil ?_
            refine (aw_ifT rfl ?_)
            refine aw_reg ?_
            refine s_t (x_q (e_move rfl) rfl ?_)
            refine s_t (x_bs rfl (bs34 _ _) rfl ?_)
            refine s_t (x_app rfl rfl happ7 rfl ?_)
            refine s_t (x_q (e_assign rfl) rfl ?_)
            refine s_nil ?_
            refine aw_reg ?_
            refine s_t (x_q (e_move rfl) rfl ?_)
            refine s_t (x_q (e_move rfl) rfl ?_)
            refine s_t (x_q (e_move rfl) rfl ?_)
            refine s_t (x_q (e_ix rfl rfl (ixStr un9 hget)) rfl ?_)
            refine s_t (x_bs rfl (bs34 _ _) rfl ?_)
            refine s_t (x_app rfl rfl happ8 rfl ?_)
            refine s_t (x_q (e_assign rfl) rfl ?_)
            refine s_nil ?_
            refine aw_reg ?_
            refine s_t (x_q (e_move rfl) rfl ?_)
            refine s_t (x_q (e_bin rfl rfl (b_addN _ 1 (by omega))) rfl ?_)
            refine s_t (x_q (e_assign rfl) rfl ?_)
            refine s_nil ?_
            exact ⟨⟨n + 1, ob8, h8_, n8⟩, ⟨by simp only; omega, hown8, hgr8, hl8⟩, by simp only; omega, wk_tms (wk_cons rfl (wk_cons rfl (wk_cons rfl (wk_cons rfl (wk_cons rfl (wk_cons rfl (wk_cons rfl wk_nil))))))) sub_rfl (Nat.le_refl _)⟩
          | false =>
            have he2 : esc (p.data.toList.take (n + 1)) = esc (p.data.toList.take n) ++ [c] := by rw [hsn, esc_snoc, if_neg (by rw [hsg]; exact Bool.false_ne_true)]
            obtain ⟨ob8, h8_, n8, happ8, hown8, hgr8⟩ := appByte hown6 c (by omega)
            have hgr8 := hgr6.trans hgr8
            have hl8 : (L3 ++ esc (p.data.toList.take (n + 1))).length ≤ 1644 * i + 3 + 205 * k + 41 * j + 1 + 2 * (n + 1) := by
              rw [he2, ← List.append_assoc, List.length_append]; simp only [List.length_singleton]; omega
            rw [List.append_assoc, ← he2] at hown8 happ8
            refine aw_seq (aw_seq (aw_reg ?_))
            refine s_t (x_q (e_move rfl) rfl ?_)
            refine s_t (x_q (e_move rfl) rfl ?_)
            refine s_t (x_q (e_ix rfl rfl (ixStr un9 hget)) rfl ?_)
            refine s_t (x_pure rfl rfl rfl (rsign_c hsg) ?_)
            refine s_nil ?_
            refine (aw_ifF rfl (aw_skip ?_))
            refine aw_reg ?_
            refine s_t (x_q (e_move rfl) rfl ?_)
            refine s_t (x_q (e_move rfl) rfl ?_)
            refine s_t (x_q (e_move rfl) rfl ?_)
            refine s_t (x_q (e_ix rfl rfl (ixStr un9 hget)) rfl ?_)
            refine s_t (x_bs rfl (bs34 _ _) rfl ?_)
            refine s_t (x_app rfl rfl happ8 rfl ?_)
            refine s_t (x_q (e_assign rfl) rfl ?_)
            refine s_nil ?_
            refine aw_reg ?_
            refine s_t (x_q (e_move rfl) rfl ?_)
            refine s_t (x_q (e_bin rfl rfl (b_addN _ 1 (by omega))) rfl ?_)
            refine s_t (x_q (e_assign rfl) rfl ?_)
            refine s_nil ?_
            exact ⟨⟨n + 1, ob8, h8_, n8⟩, ⟨by simp only; omega, hown8, hgr8, hl8⟩, by simp only; omega, wk_tms (wk_cons rfl (wk_cons rfl (wk_cons rfl (wk_cons rfl (wk_cons rfl (wk_cons rfl (wk_cons rfl wk_nil))))))) sub_rfl (Nat.le_refl _)⟩
        · refine aw_seq (aw_seq (aw_reg ?_))
          refine s_t (x_q (e_move rfl) rfl ?_)
          refine s_t (x_q (e_move rfl) rfl ?_)
          refine s_t (x_q (e_len rfl (lenStr un9)) rfl ?_)
          refine s_t (x_q (e_bin rfl rfl (dF (by omega))) rfl ?_)
          refine s_nil ?_
          refine (aw_ifF rfl (aw_exit ?_))
          refine aw_reg ?_
          refine s_t (x_q (e_move rfl) rfl ?_)
          refine s_t (x_q (e_bin rfl rfl (b_addN _ 1 (by omega))) rfl ?_)
          refine s_t (x_q (e_assign rfl) rfl ?_)
          refine s_nil ?_
          have e0 : p.data.toList.take n = p.data.toList := List.take_of_length_le (by omega)
          rw [e0] at hown6 hl6 ⊢
          have e1 : L3 ++ esc p.data.toList = L2 ++ prElN y (j + 1) := by rw [hP, ← hL3, prPart]; simp only [List.append_assoc]; rfl
          rw [e1] at hown6 hl6 ⊢
          exact ⟨⟨j + 1, ob6, h6, n6⟩, ⟨by simp only; omega, hown6, hgr6, by simp only; omega⟩, by simp only; omega, wk_tms (wk_cons rfl (wk_cons rfl (wk_cons rfl (wk_cons rfl (wk_cons rfl wk_nil))))) sub_rfl (Nat.le_refl _)⟩
      · refine aw_seq (aw_seq (aw_reg ?_))
        refine s_t (x_q (e_move rfl) rfl ?_)
        refine s_t (x_q (e_move rfl) rfl ?_)
        refine s_t (x_q (e_move rfl) rfl ?_)
        refine s_t (x_q (e_ia rfl rfl (iaSl un22 sz31 hlt)) rfl ?_)
        refine s_t (x_q (e_fa rfl (fa31_1 _ _)) rfl ?_)
        refine s_t (x_q (e_load rfl (ld1 ag29 (hs4 _ _ hg1) q2)) rfl ?_)
        refine s_t (x_q (e_move rfl) rfl ?_)
        refine s_t (x_q (e_ia rfl rfl (iaSl un29 sz28 hltk)) rfl ?_)
        refine s_t (x_q (e_load rfl (ld1 ag28 (hs4 _ _ hg2) q3)) rfl ?_)
        refine s_t (x_q (e_len rfl (lenSl un28)) rfl ?_)
        refine s_t (x_q (e_bin rfl rfl (dF (by omega))) rfl ?_)
        refine s_nil ?_
        refine (aw_ifF rfl (aw_exit ?_))
        refine aw_reg ?_
        refine s_t (x_q (e_move rfl) rfl ?_)
        refine s_t (x_q (e_bin rfl rfl (b_addN _ 1 (by omega))) rfl ?_)
        refine s_t (x_q (e_assign rfl) rfl ?_)
        refine s_nil ?_
        have hjl : j = y.length := by omega
        have e1 : L2 ++ prElN y j = L ++ prElsN els (k + 1) := by rw [hE, ← hL2, hjl, List.append_assoc]; rfl
        rw [e1] at hown4 hl4 ⊢
        exact ⟨⟨k + 1, ob4, h4, n4⟩, ⟨by simp only; omega, hown4, hgr4, by simp only; omega⟩, by simp only; omega, wk_tms (wk_cons rfl (wk_cons rfl (wk_cons rfl (wk_cons rfl wk_nil)))) sub_rfl (Nat.le_refl _)⟩
    · obtain ⟨ob4, h4, n4, happ4, hown4, hgr4⟩ := appByte hown3 39 (by omega)
      have hgr4 := hgr3.trans hgr4
      have hkl : k = els.length := by omega
      have e1 : L ++ prElsN els k ++ [39] = prMsgN m (i + 1) := by rw [hM, ← hL, hkl, prSeg]; simp only [List.append_assoc]
      have hl4 : (L ++ prElsN els k ++ [39]).length ≤ 1644 * (i + 1) := by rw [List.length_append]; simp only [List.length_singleton]; omega
      rw [e1] at happ4 hown4 hl4
      refine aw_seq (aw_seq (aw_reg ?_))
      refine s_t (x_q (e_move rfl) rfl ?_)
      refine s_t (x_q (e_move rfl) rfl ?_)
      refine s_t (x_q (e_move rfl) rfl ?_)
      refine s_t (x_q (e_ia rfl rfl (iaSl un22 sz31 hlt)) rfl ?_)
      refine s_t (x_q (e_fa rfl (fa31_1 _ _)) rfl ?_)
      refine s_t (x_q (e_load rfl (ld1 ag29 (hs3 _ _ hg1) q2)) rfl ?_)
      refine s_t (x_q (e_len rfl (lenSl un29)) rfl ?_)
      refine s_t (x_q (e_bin rfl rfl (dF (by omega))) rfl ?_)
      refine s_nil ?_
      refine (aw_ifF rfl (aw_exit ?_))
      refine aw_reg ?_
      refine s_t (x_q (e_move rfl) rfl ?_)
      refine s_t (x_bs rfl (bs34 _ _) rfl ?_)
      refine s_t (x_app rfl rfl happ4 rfl ?_)
      refine s_t (x_q (e_assign rfl) rfl ?_)
      refine s_nil ?_
      refine aw_reg ?_
      refine s_t (x_q (e_move rfl) rfl ?_)
      refine s_t (x_q (e_bin rfl rfl (b_addN _ 1 (by omega))) rfl ?_)
      refine s_t (x_q (e_assign rfl) rfl ?_)
      refine s_nil ?_
      exact ⟨⟨i + 1, ob4, h4, n4⟩, ⟨by simp only; omega, good hok0, hown4, hgr4, hl4⟩, by simp only; omega, wk_tms (wk_cons rfl (wk_cons rfl (wk_cons rfl wk_nil))) sub_rfl (Nat.le_refl _)⟩
  · refine aw_seq (aw_seq (aw_reg ?_))
    refine s_t (x_q (e_move rfl) rfl ?_)
    refine s_t (x_q (e_move rfl) rfl ?_)
    refine s_t (x_q (e_len rfl (lenSl un22)) rfl ?_)
    refine s_t (x_q (e_bin rfl rfl (dF (by omega))) rfl ?_)
    refine s_nil ?_
    refine (aw_ifF rfl (aw_exit ?_))
    have e0 : i = m.length := by omega
    have e1 : prMsgN m i = prMsg m := by rw [e0]; rfl
    rw [e1] at hown ⊢
    refine aw_seq (aw_reg ?_)
    refine s_t (x_q (e_move rfl) rfl ?_)
    refine s_t (x_q (e_conv rfl (by kernel_rfl) (conv34 hown)) rfl ?_)
    refine s_t (x_q (e_assign rfl) rfl ?_)
    refine s_t (x_q (e_assign rfl) rfl ?_)
    refine s_nil ?_
    exact aw_ret (fn_ret rfl ⟨by unfold prV okMsg; rw [decide_eq_true h60, all_end hall (by omega)]; rfl, hgr.sub hf⟩)
end Go.Proofs.YtkjkoejnicbieaaGreat.AM

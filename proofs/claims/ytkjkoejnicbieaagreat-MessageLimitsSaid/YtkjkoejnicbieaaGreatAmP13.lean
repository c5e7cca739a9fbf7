/-
  The message's functions, walked: 'Print'.
-/
import Derived.Test.YtkjkoejnicbieaaGreatAmP12
namespace Go.Proofs.YtkjkoejnicbieaaGreat.AM
open Go Go.RowKit

structure PSt where
  i : Nat
  ob : Option Nat
  adr : Value
  hp : Tr AObj
  nx : Nat

/-- What 'Print' holds, in the midst: its Builder with so much text in it; its replacer; the message. -/
structure PI (hp : Tr AObj) (nx r : Nat) (L : List UInt8) (x : PSt) : Prop where
  le : nx < x.nx
  fr : Fr x.hp x.nx
  old : ∀ i, i < nx → x.hp.get i = hp.get i
  bld : Bld x.hp x.nx nx L x.ob x.adr
  obK : ∀ y, x.ob = some y → nx < y ∧ y < x.nx
  rep : Rep x.hp x.nx r (fun j => j ≤ nx ∨ x.ob = some j)

theorem PI.sub {hp : Tr AObj} {nx r : Nat} {L : List UInt8} {x : PSt} (h : PI hp nx r L x) (hf : Fr hp nx) : Sub hp x.hp := fun i o e => by rw [h.old i (hf i o e)]; exact e

theorem PI.count {hp : Tr AObj} {nx r : Nat} {L : List UInt8} {x : PSt} (h : PI hp nx r L x) (k : Nat) : PI hp nx r L ⟨k, x.ob, x.adr, x.hp, x.nx⟩ := ⟨h.le, h.fr, h.old, h.bld, h.obK, h.rep⟩

/-- After a step of the Builder. -/
theorem PI.wr {hp : Tr AObj} {nx r : Nat} {L L' : List UInt8} {x : PSt} (h : PI hp nx r L x) {h' : Tr AObj} {n' : Nat} {ob' : Option Nat} {adr' : Value} (hb : Bld h' n' nx L' ob' adr') (hg : BG x.hp x.nx nx x.ob h' n' ob') (k : Nat) : PI hp nx r L' ⟨k, ob', adr', h', n'⟩ := by
  have hle := h.le
  have hle2 := hg.le
  have off : ∀ y, ob' = some y → nx < y ∧ y < n' := fun y e => by
    have h1 : y < n' := by
      have := hb.own.2
      rw [e] at this
      exact this.2.1
    rcases hg.ob y e with h2 | h2
    · exact ⟨(h.obK y h2).1, h1⟩
    · exact ⟨by omega, h1⟩
  refine ⟨by show nx < n'; omega, hg.fr h.fr, fun i hi => ?_, hb, off, h.rep.keep hg.le (fun i hi ha => ?_) (fun i hi ha => hg.frame i hi (fun e => ha (.inl (by omega))) (fun e => ha (.inr e)))⟩
  · show h'.get i = _
    rw [hg.frame i (by omega) (by omega) (fun e => by have := (h.obK i e).1; omega)]; exact h.old i hi
  · rcases ha with ha | ha
    · exact .inl ha
    · rcases hg.ob i ha with h2 | h2
      · exact .inr h2
      · omega

/-- After a step of the replacer. -/
theorem PI.rp {hp : Tr AObj} {nx r : Nat} {L : List UInt8} {x : PSt} (h : PI hp nx r L x) {h' : Tr AObj} {n' : Nat} (hn : x.nx ≤ n') (hf : Fr h' n') (hr : Rep h' n' r (fun j => j ≤ nx ∨ x.ob = some j)) (hk : ∀ j, (j ≤ nx ∨ x.ob = some j) → h'.get j = x.hp.get j) (k : Nat) : PI hp nx r L ⟨k, x.ob, x.adr, h', n'⟩ := by
  have hle := h.le
  refine ⟨by show nx < n'; omega, hf, fun i hi => ?_, ?_, fun y e => ⟨(h.obK y e).1, Nat.lt_of_lt_of_le (h.obK y e).2 hn⟩, hr⟩
  · show h'.get i = _
    rw [hk i (.inl (by omega))]; exact h.old i hi
  · obtain ⟨b1, b2, b3, b4, b5⟩ := h.bld
    exact ⟨by rw [hk nx (.inl (Nat.le_refl _))]; exact b1, b2, b3.keep (fun y e => hk y (.inr e)) hn, b4, Nat.lt_of_lt_of_le b5 hn⟩

/-- After a new object. -/
theorem PI.alloc {hp : Tr AObj} {nx r : Nat} {L : List UInt8} {x : PSt} (h : PI hp nx r L x) {h' : Tr AObj} (hf : Fr h' (x.nx + 1)) (hk : ∀ j, j ≠ x.nx → h'.get j = x.hp.get j) (k : Nat) : PI hp nx r L ⟨k, x.ob, x.adr, h', x.nx + 1⟩ := by
  have hle := h.le
  refine h.rp (Nat.le_succ _) hf (h.rep.keep (Nat.le_succ _) (fun i hi ha => ha) fun i hi _ => hk i (by omega)) (fun j hj => hk j ?_) k
  rcases hj with hj | hj
  · omega
  · have := (h.obK j hj).2; omega

set_option maxHeartbeats 4000000 in
theorem print_c {hp : Tr AObj} {nx : Nat} {v : Value} {m : List Seg} (hm : RdMsg hp v m) (hfit : Fits m) (hf : Fr hp nx) :
    ACall Tryz.prog 0 9 [v] hp nx (fun v hp' nx' => v = prV m ∧ hp' = hp ∧ nx' = nx) := by
  obtain ⟨hlm, hfit⟩ := hfit
  unfold BIG at hlm
  refine ACall.pure (S := fun v hp' _ => v = prV m ∧ Sub hp hp') ?_ (fun v hp' nx' h => h) (by unfold prV; split <;> rfl)
  obtain ⟨ba, ca, rfl, hm⟩ := hm
  refine acall_fn named7 Tryz.func9 rfl rfl ?_
  show AW _ _ _ _ ⟨tms [(0, .slice ba m.length ca)], hp, nx, []⟩ _
  by_cases h60 : m.length ≤ 60
  case neg =>
    refine aw_seq (aw_reg ?_)
    refine s_t (x_q (e_assign rfl) rfl ?_)
    refine s_t (x_q (e_assign rfl) rfl ?_)
    refine s_nil ?_
    refine aw_seq (aw_seq (aw_reg ?_))
    refine s_t (x_q (e_move rfl) rfl ?_)
    refine s_t (x_q (e_len rfl (lenSl un22)) rfl ?_)
    refine s_t (x_q (e_bin rfl rfl (dT (by omega))) rfl ?_)
    refine s_nil ?_
    refine (aw_ifT rfl ?_)
    refine aw_seq (aw_reg ?_)
    refine s_t (x_q (e_assign rfl) rfl ?_)
    refine s_t (x_q (e_assign rfl) rfl ?_)
    refine s_nil ?_
    exact aw_ret (fn_ret rfl ⟨by unfold prV okMsg; rw [decide_eq_false h60]; rfl, Sub.refl _⟩)
  refine aw_seq (aw_reg ?_)
  refine s_t (x_q (e_assign rfl) rfl ?_)
  refine s_t (x_q (e_assign rfl) rfl ?_)
  refine s_nil ?_
  refine aw_seq (aw_seq (aw_reg ?_))
  refine s_t (x_q (e_move rfl) rfl ?_)
  refine s_t (x_q (e_len rfl (lenSl un22)) rfl ?_)
  refine s_t (x_q (e_bin rfl rfl (dF (by omega))) rfl ?_)
  refine s_nil ?_
  refine (aw_ifF rfl (aw_skip ?_))
  refine aw_seq (aw_reg ?_)
  refine s_t (x_alloc ze50 sz50 rfl rfl ?_)
  refine s_nil ?_
  generalize hh : hp.set nx _ = hp0
  have hb0 : hp0.get nx = some (.cells [.pointer none, .slice none 0 0] 50 2 0 false true) := by rw [← hh]; exact Tr.get_set_same _ _ _
  have hf0 : ∀ i, i ≠ nx → hp0.get i = hp.get i := fun i hi => by rw [← hh]; exact Tr.get_set_ne _ _ hi
  have hfr0 : Fr hp0 (nx + 1) := by rw [← hh]; exact hf.new _
  clear hh
  refine aw_seq (aw_reg ?_)
  refine s_t (x_call rfl rfl rfl (escaped_c (fun j => j ≤ nx) (fun j hj => Nat.lt_succ_of_le hj) hfr0) ?_)
  rintro _ h1 n1 ⟨r, rfl, k1, k2, k3, k4⟩
  refine s_t (x_q (e_assign rfl) rfl ?_)
  refine s_nil ?_
  refine aw_seq (aw_seq (aw_reg ?_))
  refine s_t (x_q (e_move rfl) rfl ?_)
  refine s_t (x_q (e_len rfl (lenSl un22)) rfl ?_)
  refine s_t (x_q (e_move rfl) rfl ?_)
  refine s_nil ?_
  have hpi0 : PI hp nx r [] ⟨0, none, .pointer none, h1, n1⟩ := by
    refine ⟨by show nx < n1; omega, k2, fun i hi => by show h1.get i = _; rw [k4 i (by omega), hf0 i (by omega)], ⟨(k4 nx (by omega)).trans hb0, .inl rfl, Own.nil _ _ _ _, (by intro h; cases h), by show nx < n1; omega⟩, (by intro y h; cases h), k3.keep (Nat.le_refl _) (fun i _ ha => ?_) (fun _ _ _ => rfl)⟩
    rcases ha with ha | ha
    · exact ha
    · cases ha
  refine aw_block (aw_loop (α := PSt) (fun x => ⟨tms [(4, .pointer (some ⟨nx, 0, none⟩)), (5, .pointer (some ⟨r, 0, none⟩)), (16, .slice ba m.length ca), (17, .int .i64 (m.length : Int)), (18, .int .i64 (x.i : Int))], x.hp, x.nx, []⟩) (fun x => x.i ≤ m.length ∧ (m.take x.i).all okSeg = true ∧ PI hp nx r (prMsgN m x.i) x ∧ (prMsgN m x.i).length ≤ 1644 * x.i) (fun x => m.length - x.i) ⟨0, none, .pointer none, h1, n1⟩ ⟨Nat.zero_le _, by simp, hpi0, Nat.zero_le _⟩ (wk_tms (wk_cons rfl (wk_cons rfl (wk_cons rfl (wk_cons rfl (wk_cons rfl wk_nil))))) sub_rfl (Nat.le_refl _)) ?_)
  clear hpi0 k1 k2 k3 k4 hb0 hf0 hfr0 h1 n1
  rintro ⟨i, ob, adr, h1, n1⟩ ⟨hi, hall, hpi, hlen⟩
  simp only at hi hall hpi hlen
  dsimp only
  by_cases hlt : i < m.length
  case neg =>
    refine aw_seq (aw_reg ?_)
    refine s_t (x_q (e_bin rfl rfl (dF (by omega))) rfl ?_)
    refine s_nil ?_
    refine aw_seq ((aw_ifF rfl (aw_exit ?_)))
    have e0 : i = m.length := by omega
    have e1 : prMsgN m i = prMsg m := by rw [e0]; rfl
    rw [e1] at hpi hlen
    refine aw_seq (aw_reg ?_)
    refine s_t (x_call rfl rfl rfl (bstr_c hpi.bld (by omega)) ?_)
    rintro _ h2 n2 ⟨rfl, f2, _, _⟩
    refine s_t (x_q (e_assign rfl) rfl ?_)
    refine s_t (x_q (e_assign rfl) rfl ?_)
    refine s_nil ?_
    refine aw_ret (fn_ret rfl ⟨by unfold prV okMsg; rw [decide_eq_true h60, all_end hall (by omega)]; rfl, fun j o e => ?_⟩)
    have := hf j o e
    rw [f2 j (fun h => by have := (hpi.obK j h).1; omega)]
    exact hpi.sub hf j o e
  obtain ⟨b1, o1, c1, e1, fz1, ro1, hd1, rfl, hg1, hc1⟩ := hm (by omega)
  obtain ⟨q1, u, q2, he⟩ := hc1 i hlt
  obtain ⟨htb, hle, hyy⟩ := hfit _ (getD_mem (d := default) hlt)
  have bad : okSeg (m.getD i default) = false → prV m = .tuple #[.string ⟨#[]⟩, .int .i64 2] := fun h => by
    unfold prV okMsg; rw [all_bad (getD_mem hlt) h, Bool.and_false]; rfl
  have good := all_step (d := default) hall hlt
  have hM : prMsgN m (i + 1) = prMsgN m i ++ prSeg (m.getD i default) := rfl
  generalize m.getD i default = x at *
  obtain ⟨tag, els⟩ := x
  simp only at q1 he hle hyy htb
  have hs1 := hpi.sub hf
  refine aw_seq (aw_reg ?_)
  refine s_t (x_q (e_bin rfl rfl (dT (by omega))) rfl ?_)
  refine s_nil ?_
  refine aw_seq ((aw_ifT rfl (aw_skip ?_)))
  refine aw_seq (aw_block ?_)
  obtain ⟨tk1, tk2⟩ := take_two q1 q2
  have he0 := he
  obtain ⟨be, ce, rfl, hek⟩ := he
  refine aw_seq (aw_reg ?_)
  refine s_t (x_q (e_ia rfl rfl (iaSl un22 sz31 hlt)) rfl ?_)
  refine s_t (x_q (e_load rfl (ldN ag31 sz31 (hs1 _ _ hg1) tk2 tk1)) rfl ?_)
  refine s_t (x_alloc ze31 sz31 rfl rfl ?_)
  refine s_t (x_store rfl rfl (st1 sz31 rfl (Tr.get_set_same _ _ _) rfl rfl rfl rfl) ?_)
  refine s_nil ?_
  generalize hh : Tr.set _ n1 _ = h2
  have hT : h2.get n1 = some (.cells [.string tag, .slice be els.length ce] 31 2 0 false true) := by rw [← hh]; exact Tr.get_set_same _ _ _
  have hf2 : ∀ j, j ≠ n1 → h2.get j = h1.get j := fun j hj => by rw [← hh, Tr.get_set_ne _ _ hj, Tr.get_set_ne _ _ hj]
  have hfr2 : Fr h2 (n1 + 1) := by rw [← hh]; exact (hpi.fr.new _).set (Nat.lt_succ_self _) _
  clear hh
  have hpi2 : PI hp nx r (prMsgN m i) ⟨i, ob, adr, h2, n1 + 1⟩ := hpi.alloc hfr2 hf2 i
  have hobT : ob ≠ some n1 := fun e => Nat.lt_irrefl _ (hpi.obK n1 e).2
  have hnT : n1 ≠ nx := Nat.ne_of_gt hpi.le
  have hs2 := hpi2.sub hf
  clear hpi hs1 hf2 hfr2 tk1 tk2
  cases htag : isTag tag.data.toList with
  | false =>
    refine aw_seq (aw_seq (aw_reg ?_))
    refine s_t (x_q (e_fa rfl (fa31_0 _ _)) rfl ?_)
    refine s_t (x_q (e_load rfl (ld1 ag9 hT rfl)) rfl ?_)
    refine s_t (x_pure rfl rfl rfl (tag_c htag) ?_)
    refine s_t (x_q (e_un rfl rfl) rfl ?_)
    refine s_t (x_q (e_move rfl) rfl ?_)
    refine s_n rfl rfl ?_
    refine s_n rfl rfl ?_
    refine s_n rfl rfl ?_
    refine s_t (x_q (e_pickT rfl rfl rfl) rfl ?_)
    refine s_nil ?_
    refine (aw_ifT rfl ?_)
    refine aw_seq (aw_reg ?_)
    refine s_t (x_q (e_assign rfl) rfl ?_)
    refine s_t (x_q (e_assign rfl) rfl ?_)
    refine s_nil ?_
    exact aw_ret (fn_ret rfl ⟨(bad (by unfold okSeg; rw [htag]; rfl)).symm, hs2⟩)
  | true =>
  cases hfits : fitEls els with
  | false =>
    have hno : okSeg ⟨tag, els⟩ = false := by
      cases hq : okSeg ⟨tag, els⟩ with
      | false => rfl
      | true =>
        unfold okSeg at hq
        simp only [Bool.and_eq_true, decide_eq_true_eq, List.all_eq_true] at hq
        have : fitEls els = true := by
          unfold fitEls
          simp only [Bool.and_eq_true, decide_eq_true_eq, List.all_eq_true]
          refine ⟨hq.1.2, fun y hy => ?_⟩
          have hy' := hq.2 y hy
          unfold okEl at hy'
          unfold fitEl
          simp only [Bool.and_eq_true, decide_eq_true_eq, List.all_eq_true] at hy' ⊢
          refine ⟨hy'.1, fun p hp => ?_⟩
          have hp' := hy'.2 p hp
          unfold okPart at hp'
          simp only [Bool.and_eq_true, decide_eq_true_eq] at hp'
          exact hp'.1
        rw [hfits] at this; cases this
    refine aw_seq (aw_seq (aw_reg ?_))
    refine s_t (x_q (e_fa rfl (fa31_0 _ _)) rfl ?_)
    refine s_t (x_q (e_load rfl (ld1 ag9 hT rfl)) rfl ?_)
    refine s_t (x_pure rfl rfl rfl (tag_c htag) ?_)
    refine s_t (x_q (e_un rfl rfl) rfl ?_)
    refine s_t (x_q (e_move rfl) rfl ?_)
    refine s_g rfl (x_q (e_load rfl (ldN ag31 sz31 hT rfl rfl)) rfl ?_)
    refine s_g rfl (x_pure rfl rfl rfl (fits_c (he0.mono hs2) ⟨hle, hyy⟩ hpi2.fr hfits) ?_)
    refine s_g rfl (x_q (e_un rfl rfl) rfl ?_)
    refine s_t (x_q (e_pickF rfl rfl rfl) rfl ?_)
    refine s_nil ?_
    refine (aw_ifT rfl ?_)
    refine aw_seq (aw_reg ?_)
    refine s_t (x_q (e_assign rfl) rfl ?_)
    refine s_t (x_q (e_assign rfl) rfl ?_)
    refine s_nil ?_
    exact aw_ret (fn_ret rfl ⟨(bad hno).symm, hs2⟩)
  | true =>
  have hfits0 := hfits
  unfold fitEls at hfits
  simp only [Bool.and_eq_true, decide_eq_true_eq] at hfits
  obtain ⟨h8, hfe⟩ := hfits
  have badEl : ∀ k, k < els.length → okEl (els.getD k []) = false → okSeg ⟨tag, els⟩ = false := fun k hk h => by
    unfold okSeg; rw [all_bad (getD_mem hk) h, Bool.and_false]
  have htl := tag_len htag
  have hts := size_list tag
  refine aw_seq (aw_seq (aw_reg ?_))
  refine s_t (x_q (e_fa rfl (fa31_0 _ _)) rfl ?_)
  refine s_t (x_q (e_load rfl (ld1 ag9 hT rfl)) rfl ?_)
  refine s_t (x_pure rfl rfl rfl (tag_c htag) ?_)
  refine s_t (x_q (e_un rfl rfl) rfl ?_)
  refine s_t (x_q (e_move rfl) rfl ?_)
  refine s_g rfl (x_q (e_load rfl (ldN ag31 sz31 hT rfl rfl)) rfl ?_)
  refine s_g rfl (x_pure rfl rfl rfl (fits_c (he0.mono hs2) ⟨hle, hyy⟩ hpi2.fr hfits0) ?_)
  refine s_g rfl (x_q (e_un rfl rfl) rfl ?_)
  refine s_t (x_q (e_pickF rfl rfl rfl) rfl ?_)
  refine s_nil ?_
  refine (aw_ifF rfl (aw_skip ?_))
  refine aw_seq (aw_reg ?_)
  refine s_t (x_q (e_fa rfl (fa31_0 _ _)) rfl ?_)
  refine s_t (x_q (e_load rfl (ld1 ag9 hT rfl)) rfl ?_)
  refine s_t (x_call rfl rfl rfl (wstr_c hpi2.bld tag (by omega)) ?_)
  rintro _ h3 n3 ⟨ob3, hbld3, hbg3⟩
  refine s_nil ?_
  have hT3 : h3.get n1 = some (.cells [.string tag, .slice be els.length ce] 31 2 0 false true) := by rw [hbg3.frame n1 (Nat.lt_succ_self _) hnT hobT]; exact hT
  have hpi3 := hpi2.wr hbld3 hbg3 0
  have hl2 : (prMsgN m i ++ tag.data.toList).length ≤ 1644 * i + 3 := by rw [List.length_append]; omega
  refine aw_seq (aw_seq (aw_reg ?_))
  refine s_t (x_q (e_fa rfl (fa31_1 _ _)) rfl ?_)
  refine s_t (x_q (e_load rfl (ld1 ag29 hT3 rfl)) rfl ?_)
  refine s_t (x_q (e_len rfl (lenSl un29)) rfl ?_)
  refine s_t (x_q (e_move rfl) rfl ?_)
  refine s_nil ?_
  generalize hL : prMsgN m i ++ tag.data.toList = L at *
  clear hT3 hT hbg3 hbld3 hpi2 hobT hnT hs2
  refine aw_block (aw_loop (α := PSt) (fun x => ⟨tms [(4, .pointer (some ⟨nx, 0, none⟩)), (5, .pointer (some ⟨r, 0, none⟩)), (16, .slice (some ⟨b1, o1, none⟩) m.length ca), (17, .int .i64 (m.length : Int)), (18, .int .i64 (i : Int)), (35, .slice be els.length ce), (36, .int .i64 (els.length : Int)), (37, .int .i64 (x.i : Int))], x.hp, x.nx, []⟩) (fun x => x.i ≤ els.length ∧ (els.take x.i).all okEl = true ∧ PI hp nx r (L ++ prElsN els x.i) x ∧ (L ++ prElsN els x.i).length ≤ 1644 * i + 3 + 205 * x.i) (fun x => els.length - x.i) ⟨0, ob3, _, h3, n3⟩ ⟨Nat.zero_le _, by simp, by simpa [prElsN] using hpi3, by simpa [prElsN] using hl2⟩ (wk_tms (wk_cons rfl (wk_cons rfl (wk_cons rfl (wk_cons rfl (wk_cons rfl (wk_cons rfl (wk_cons rfl (wk_cons rfl wk_nil)))))))) sub_rfl (Nat.le_refl _)) ?_)
  clear hpi3 hl2 ob3 h3 n3 h2
  rintro ⟨k, ob3, adr3, h3, n3⟩ ⟨hk, hallk, hpi3, hl3⟩
  simp only at hk hallk hpi3 hl3
  dsimp only
  have hs3 := hpi3.sub hf
  by_cases hltk : k < els.length
  case neg =>
    have hkl : k = els.length := by omega
    have e1 : L ++ prElsN els k ++ [39] = prMsgN m (i + 1) := by rw [hM, ← hL, hkl, prSeg]; simp only [List.append_assoc]
    have hl4 : (L ++ prElsN els k ++ [39]).length ≤ 1644 * (i + 1) := by rw [List.length_append]; simp only [List.length_singleton]; omega
    have hok : okSeg ⟨tag, els⟩ = true := by unfold okSeg; rw [htag, decide_eq_true h8, all_end hallk (by omega)]; rfl
    refine aw_seq (aw_reg ?_)
    refine s_t (x_q (e_bin rfl rfl (dF (by omega))) rfl ?_)
    refine s_nil ?_
    refine aw_seq ((aw_ifF rfl (aw_exit ?_)))
    refine aw_reg ?_
    refine s_t (x_call rfl rfl rfl (wbyte_c hpi3.bld 39 (by omega)) ?_)
    rintro _ h4 n4 ⟨ob4, hbld4, hbg4⟩
    refine s_nil ?_
    have hpi4 := hpi3.wr hbld4 hbg4 (i + 1)
    rw [e1] at hpi4 hl4
    refine aw_reg ?_
    refine s_t (x_q (e_bin rfl rfl (b_addN _ 1 (by omega))) rfl ?_)
    refine s_t (x_q (e_move rfl) rfl ?_)
    refine s_nil ?_
    exact ⟨⟨i + 1, ob4, _, h4, n4⟩, ⟨by simp only; omega, good hok, hpi4, hl4⟩, by simp only; omega, wk_tms (wk_cons rfl (wk_cons rfl (wk_cons rfl (wk_cons rfl (wk_cons rfl wk_nil))))) sub_rfl (Nat.le_refl _)⟩
  obtain ⟨b2, o2, c2, e2, fz2, ro2, hd2, rfl, hg2, hc2⟩ := hek (by omega)
  obtain ⟨w, q3, hy⟩ := hc2 k hltk
  obtain ⟨hly, hss⟩ := hyy _ (getD_mem (d := []) hltk)
  have hfy : fitEl (els.getD k []) = true := List.all_eq_true.1 hfe _ (getD_mem hltk)
  have badY := badEl k hltk
  have goodY := all_step (d := []) hallk hltk
  have hE : prElsN els (k + 1) = prElsN els k ++ prEl (els.getD k []) := rfl
  generalize els.getD k [] = y at *
  unfold fitEl at hfy
  simp only [Bool.and_eq_true, decide_eq_true_eq] at hfy
  obtain ⟨⟨hy1, hy5⟩, hps⟩ := hfy
  obtain ⟨by_, cy, rfl, hyj⟩ := hy
  refine aw_seq (aw_reg ?_)
  refine s_t (x_q (e_bin rfl rfl (dT (by omega))) rfl ?_)
  refine s_nil ?_
  refine aw_seq ((aw_ifT rfl (aw_skip ?_)))
  refine aw_seq (aw_block ?_)
  refine aw_seq (aw_reg ?_)
  refine s_t (x_q (e_ia rfl rfl (iaSl un29 sz28 hltk)) rfl ?_)
  refine s_t (x_q (e_load rfl (ld1 ag28 (hs3 _ _ hg2) q3)) rfl ?_)
  refine s_t (x_q (e_assign rfl) rfl ?_)
  refine s_nil ?_
  refine aw_seq (aw_reg ?_)
  refine s_t (x_q (e_move rfl) rfl ?_)
  refine s_t (x_q (e_len rfl (lenSl un28)) rfl ?_)
  refine s_t (x_q (e_move rfl) rfl ?_)
  refine s_nil ?_
  generalize hL2 : L ++ prElsN els k = L2 at *
  refine aw_block (aw_loop (α := PSt) (fun x => ⟨tms [(4, .pointer (some ⟨nx, 0, none⟩)), (5, .pointer (some ⟨r, 0, none⟩)), (16, .slice (some ⟨b1, o1, none⟩) m.length ca), (17, .int .i64 (m.length : Int)), (18, .int .i64 (i : Int)), (35, .slice (some ⟨b2, o2, none⟩) els.length ce), (36, .int .i64 (els.length : Int)), (37, .int .i64 (k : Int)), (41, .slice by_ y.length cy), (42, .int .i64 (y.length : Int)), (43, .int .i64 (x.i : Int))], x.hp, x.nx, []⟩) (fun x => x.i ≤ y.length ∧ (y.take x.i).all okPart = true ∧ PI hp nx r (L2 ++ prElN y x.i) x ∧ (L2 ++ prElN y x.i).length ≤ 1644 * i + 3 + 205 * k + 41 * x.i) (fun x => y.length - x.i) ⟨0, ob3, adr3, h3, n3⟩ ⟨Nat.zero_le _, by simp, by simpa [prElN] using hpi3.count 0, by simpa [prElN] using hl3⟩ (wk_tms (wk_cons rfl (wk_cons rfl (wk_cons rfl (wk_cons rfl (wk_cons rfl (wk_cons rfl (wk_cons rfl (wk_cons rfl (wk_cons rfl (wk_cons rfl (wk_cons rfl wk_nil))))))))))) sub_rfl (Nat.le_refl _)) ?_)
  clear hpi3 hs3 hl3 ob3 adr3 h3 n3
  rintro ⟨j, ob4, adr4, h4, n4⟩ ⟨hj, hallj, hpi4, hl4⟩
  simp only at hj hallj hpi4 hl4
  dsimp only
  have hs4 := hpi4.sub hf
  by_cases hltj : j < y.length
  case neg =>
    have hjl : j = y.length := by omega
    have e1 : L2 ++ prElN y j = L ++ prElsN els (k + 1) := by rw [hE, ← hL2, hjl, List.append_assoc]; rfl
    have hok : okEl y = true := by unfold okEl; rw [decide_eq_true hy1, decide_eq_true hy5, all_end hallj (by omega)]; rfl
    rw [e1] at hpi4 hl4
    refine aw_seq (aw_reg ?_)
    refine s_t (x_q (e_bin rfl rfl (dF (by omega))) rfl ?_)
    refine s_nil ?_
    refine aw_seq ((aw_ifF rfl (aw_exit ?_)))
    refine aw_reg ?_
    refine s_t (x_q (e_bin rfl rfl (b_addN _ 1 (by omega))) rfl ?_)
    refine s_t (x_q (e_move rfl) rfl ?_)
    refine s_nil ?_
    exact ⟨⟨k + 1, ob4, adr4, h4, n4⟩, ⟨by simp only; omega, goodY hok, hpi4.count (k + 1), by simp only; omega⟩, by simp only; omega, wk_tms (wk_cons rfl (wk_cons rfl (wk_cons rfl (wk_cons rfl (wk_cons rfl (wk_cons rfl (wk_cons rfl (wk_cons rfl wk_nil)))))))) sub_rfl (Nat.le_refl _)⟩
  obtain ⟨b3, o3, c3, e3, fz3, ro3, hd3, rfl, hg3, hc3⟩ := hyj (by omega)
  obtain ⟨z, q4, rfl⟩ := hc3 j hltj
  have hp20 : decide ((y.getD j ⟨#[]⟩).size ≤ 20) = true := List.all_eq_true.1 hps _ (getD_mem hltj)
  have hpB := hss _ (getD_mem (d := ⟨#[]⟩) hltj)
  have hP : prElN y (j + 1) = prElN y j ++ prPart j (y.getD j ⟨#[]⟩) := rfl
  have badP : okPart (y.getD j ⟨#[]⟩) = false → okEl y = false := fun h => by unfold okEl; rw [all_bad (getD_mem hltj) h, Bool.and_false]
  have goodP := all_step (d := ⟨#[]⟩) hallj hltj
  generalize y.getD j ⟨#[]⟩ = p at *
  simp only [decide_eq_true_eq] at hp20
  have hpl := size_list p
  refine aw_seq (aw_reg ?_)
  refine s_t (x_q (e_bin rfl rfl (dT (by omega))) rfl ?_)
  refine s_nil ?_
  refine aw_seq ((aw_ifT rfl (aw_skip ?_)))
  refine aw_seq (aw_block ?_)
  refine aw_seq (aw_reg ?_)
  refine s_t (x_q (e_move rfl) rfl ?_)
  refine s_t (x_q (e_ia rfl rfl (iaSl un28 sz9 hltj)) rfl ?_)
  refine s_t (x_q (e_load rfl (ld1 ag9 (hs4 _ _ hg3) q4)) rfl ?_)
  refine s_t (x_q (e_assign rfl) rfl ?_)
  refine s_t (x_q (e_assign rfl) rfl ?_)
  refine s_nil ?_
  cases hcont : p.data.toList.all okCh with
  | false =>
    refine aw_seq (aw_seq (aw_reg ?_))
    refine s_t (x_q (e_move rfl) rfl ?_)
    refine s_t (x_pure rfl rfl rfl (contf_c hpB hpi4.fr hcont) ?_)
    refine s_nil ?_
    refine (aw_ifT rfl ?_)
    refine aw_seq (aw_reg ?_)
    refine s_t (x_q (e_assign rfl) rfl ?_)
    refine s_t (x_q (e_assign rfl) rfl ?_)
    refine s_nil ?_
    exact aw_ret (fn_ret rfl ⟨(bad (badY (badP (by unfold okPart; rw [hcont, Bool.and_false])))).symm, hs4⟩)
  | true =>
  have hok : okPart p = true := by unfold okPart; rw [hcont, decide_eq_true hp20]; rfl
  refine aw_seq (aw_seq (aw_reg ?_))
  refine s_t (x_q (e_move rfl) rfl ?_)
  refine s_t (x_pure rfl rfl rfl (contf_c hpB hpi4.fr hcont) ?_)
  refine s_nil ?_
  refine (aw_ifF rfl (aw_skip ?_))
  refine aw_seq (aw_mono (Q := fun x s => x = .normal ∧ ∃ z : PSt, PI hp nx r (L2 ++ prElN y j ++ [if j = 0 then 43 else 58]) z ∧ Wk s ⟨tms [(4, .pointer (some ⟨nx, 0, none⟩)), (5, .pointer (some ⟨r, 0, none⟩)), (11, .string p), (16, .slice (some ⟨b1, o1, none⟩) m.length ca), (17, .int .i64 (m.length : Int)), (18, .int .i64 (i : Int)), (35, .slice (some ⟨b2, o2, none⟩) els.length ce), (36, .int .i64 (els.length : Int)), (37, .int .i64 (k : Int)), (41, .slice (some ⟨b3, o3, none⟩) y.length cy), (42, .int .i64 (y.length : Int)), (43, .int .i64 (j : Int))], z.hp, z.nx, []⟩) ?_ ?_)
  · by_cases hj0 : j = 0
    · rw [if_pos hj0]
      refine aw_seq (aw_reg ?_)
      refine s_t (x_q (e_move rfl) rfl ?_)
      refine s_t (x_q (e_bin rfl rfl (eT (by omega))) rfl ?_)
      refine s_nil ?_
      refine (aw_ifT rfl ?_)
      refine aw_reg ?_
      refine s_t (x_call rfl rfl rfl (wbyte_c hpi4.bld 43 (by omega)) ?_)
      rintro _ h5 n5 ⟨ob5, hbld5, hbg5⟩
      refine s_nil ?_
      exact ⟨rfl, _, hpi4.wr hbld5 hbg5 j, wk_tms (wk_cons rfl (wk_cons rfl (wk_cons rfl (wk_cons rfl (wk_cons rfl (wk_cons rfl (wk_cons rfl (wk_cons rfl (wk_cons rfl (wk_cons rfl (wk_cons rfl (wk_cons rfl wk_nil)))))))))))) sub_rfl (Nat.le_refl _)⟩
    · rw [if_neg hj0]
      refine aw_seq (aw_reg ?_)
      refine s_t (x_q (e_move rfl) rfl ?_)
      refine s_t (x_q (e_bin rfl rfl (eF (by omega))) rfl ?_)
      refine s_nil ?_
      refine (aw_ifF rfl ?_)
      refine aw_reg ?_
      refine s_t (x_call rfl rfl rfl (wbyte_c hpi4.bld 58 (by omega)) ?_)
      rintro _ h5 n5 ⟨ob5, hbld5, hbg5⟩
      refine s_nil ?_
      exact ⟨rfl, _, hpi4.wr hbld5 hbg5 j, wk_tms (wk_cons rfl (wk_cons rfl (wk_cons rfl (wk_cons rfl (wk_cons rfl (wk_cons rfl (wk_cons rfl (wk_cons rfl (wk_cons rfl (wk_cons rfl (wk_cons rfl (wk_cons rfl wk_nil)))))))))))) sub_rfl (Nat.le_refl _)⟩
  rintro _ s ⟨rfl, ⟨zi, ob5, adr5, h5, n5⟩, hpi5, hwk⟩
  refine aw_wk hwk ?_
  clear hwk hpi4 hs4
  have hl5 : (L2 ++ prElN y j ++ [if j = 0 then (43 : UInt8) else 58]).length ≤ 1644 * i + 3 + 205 * k + 41 * j + 1 := by rw [List.length_append]; simp only [List.length_singleton]; omega
  have hle2 := (esc_le p.data.toList).2
  refine aw_reg ?_
  refine s_t (x_q (e_move rfl) rfl ?_)
  refine s_t (x_q (e_move rfl) rfl ?_)
  refine s_t (x_call rfl rfl rfl (replace_c hpi5.rep (fun j hj => hj.elim (fun hj => Nat.lt_of_le_of_lt hj hpi5.le) (fun hj => (hpi5.obK j hj).2)) hp20 hpi5.fr) ?_)
  rintro _ h6 n6 ⟨rfl, a1, a2, a3, a4⟩
  have hpi6 := hpi5.rp a1 a2 a3 a4 j
  refine s_t (x_call rfl rfl rfl (wstr_c hpi6.bld ⟨(esc p.data.toList).toArray⟩ (by show _ + (esc p.data.toList).toArray.size ≤ _; rw [List.size_toArray]; omega)) ?_)
  rintro _ h7 n7 ⟨ob7, hbld7, hbg7⟩
  refine s_nil ?_
  have hpi7 := hpi6.wr hbld7 hbg7 (j + 1)
  have e1 : L2 ++ prElN y j ++ [if j = 0 then (43 : UInt8) else 58] ++ (⟨(esc p.data.toList).toArray⟩ : ByteArray).data.toList = L2 ++ prElN y (j + 1) := by
    rw [hP, prPart]; simp only [List.append_assoc]; rfl
  rw [e1] at hpi7
  have hl7 : (L2 ++ prElN y (j + 1)).length ≤ 1644 * i + 3 + 205 * k + 41 * (j + 1) := by
    rw [← e1, List.length_append]
    show _ + (esc p.data.toList).length ≤ _
    omega
  refine aw_reg ?_
  refine s_t (x_q (e_bin rfl rfl (b_addN _ 1 (by omega))) rfl ?_)
  refine s_t (x_q (e_move rfl) rfl ?_)
  refine s_nil ?_
  exact ⟨⟨j + 1, ob7, _, h7, n7⟩, ⟨by simp only; omega, goodP hok, hpi7, hl7⟩, by simp only; omega, wk_tms (wk_cons rfl (wk_cons rfl (wk_cons rfl (wk_cons rfl (wk_cons rfl (wk_cons rfl (wk_cons rfl (wk_cons rfl (wk_cons rfl (wk_cons rfl (wk_cons rfl wk_nil))))))))))) sub_rfl (Nat.le_refl _)⟩
end Go.Proofs.YtkjkoejnicbieaaGreat.AM

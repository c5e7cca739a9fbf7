/-
  The message's functions, walked: the scanner's 'segment'.
-/
import Derived.Test.YtkjkoejnicbieaaGreatAmP8
import Derived.Test.YtkjkoejnicbieaaGreatAmD3
namespace Go.Proofs.YtkjkoejnicbieaaGreat.AM
open Go Go.RowKit

theorem pPart_len : ∀ (n : Nat) (l p r : List UInt8), l.length ≤ n → pPart l = some (p, r) → r.length ≤ l.length := by
  intro n
  induction n with
  | zero =>
    intro l p r hl h
    have : l = [] := List.eq_nil_of_length_eq_zero (by omega)
    subst this
    rw [pPart_nil] at h
    cases h; exact Nat.le_refl _
  | succ n ih =>
    intro l p r hl h
    cases l with
    | nil => rw [pPart_nil] at h; cases h; exact Nat.le_refl _
    | cons c t =>
      rw [pPart_cons] at h
      simp only [List.length_cons] at hl ⊢
      split at h
      · cases h; exact Nat.le_refl _
      · split at h
        · split at h
          · cases h
          · rename_i d t'
            simp only [List.length_cons] at hl ⊢
            split at h
            · cases hp : pPart t' with
              | none => rw [hp] at h; cases h
              | some x => rw [hp] at h; cases h; have := ih t' x.1 x.2 (by omega) hp; omega
            · cases h
        · split at h
          · cases hp : pPart t with
            | none => rw [hp] at h; cases h
            | some x => rw [hp] at h; cases h; have := ih t x.1 x.2 (by omega) hp; omega
          · cases h

def addPart (acc : List (List ByteArray)) (p : List UInt8) : List (List ByteArray) := acc.dropLast ++ [acc.getLast?.getD [] ++ [⟨p.toArray⟩]]
theorem addPart_snoc (acc : List (List ByteArray)) (ss : List ByteArray) (p : List UInt8) : addPart (acc ++ [ss]) p = acc ++ [ss ++ [⟨p.toArray⟩]] := by simp [addPart]

/-- The elements of a segment, and what is left behind it. -/
def pEls (acc : List (List ByteArray)) (l : List UInt8) : Option (List (List ByteArray) × List UInt8) :=
  match l with
  | [] => none
  | c :: t =>
    if c = 39 then some (acc, t)
    else if c = 43 then
      match h : pPart t with
      | none => none
      | some (p, t') => pEls (addPart (acc ++ [[]]) p) t'
    else if c = 58 then
      if acc = [] then none
      else match h : pPart t with
        | none => none
        | some (p, t') => pEls (addPart acc p) t'
    else none
termination_by l.length
decreasing_by
  all_goals (have := pPart_len _ _ _ _ (Nat.le_refl _) h; simp only [List.length_cons]; omega)

theorem pEls_nil (acc : List (List ByteArray)) : pEls acc [] = none := by rw [pEls]
theorem pEls_end (acc : List (List ByteArray)) (t : List UInt8) : pEls acc (39 :: t) = some (acc, t) := by rw [pEls]; rfl
/-- Behind '+' or ':'. -/
def pNext (acc : List (List ByteArray)) (t : List UInt8) : Option (List (List ByteArray) × List UInt8) :=
  match pPart t with
  | none => none
  | some (p, t') => pEls (addPart acc p) t'
theorem pEls_plus (acc : List (List ByteArray)) (t : List UInt8) : pEls acc (43 :: t) = pNext (acc ++ [[]]) t := by
  rw [pEls, if_neg (by decide), if_pos rfl]
  unfold pNext
  split <;> (rename_i h; rw [h])
theorem pEls_colon (acc : List (List ByteArray)) (t : List UInt8) : pEls acc (58 :: t) = if acc = [] then none else pNext acc t := by
  rw [pEls, if_neg (by decide), if_neg (by decide), if_pos rfl]
  unfold pNext
  split
  · rfl
  · split <;> (rename_i h; rw [h])
theorem pEls_other {c : UInt8} (acc : List (List ByteArray)) (t : List UInt8) (h1 : c ≠ 39) (h2 : c ≠ 43) (h3 : c ≠ 58) : pEls acc (c :: t) = none := by
  rw [pEls, if_neg h1, if_neg h2, if_neg h3]

def pSeg (l : List UInt8) : Option (Seg × List UInt8) :=
  if isTag (l.takeWhile isUp) = true then (pEls [] (l.dropWhile isUp)).map fun x => (⟨⟨(l.takeWhile isUp).toArray⟩, x.1⟩, x.2) else none

theorem slStr {hp : Tr AObj} {s : ByteArray} {a b : Nat} (h1 : a ≤ b) (h2 : b ≤ s.size) : sliceA Tryz.prog hp 9 (.string s) (some (.int .i64 (a : Int))) (some (.int .i64 (b : Int))) none = some (.string ⟨((s.data.toList.drop a).take (b - a)).toArray⟩) := by
  have hb : boundsA s.size s.size (some (.int .i64 (a : Int))) (some (.int .i64 (b : Int))) none = some (a, b, s.size) := by
    have c : (Nat.ble a b && Nat.ble b s.size && Nat.ble s.size s.size) = true := by
      simp only [Bool.and_eq_true, Nat.ble_eq]; omega
    simp only [boundsA, natV_cast, c, cond_true]
  simp only [sliceA, un9, hb]
theorem bd31 (t : ByteArray) : buildA Tryz.prog 31 [(0, .string t)] = some (.agg #[.string t, .slice none 0 0]) := by kernel_rfl

theorem stSeg {hp : Tr AObj} {b : Nat} {x y : Value} {t : ByteArray} {ob : Option Nat} {n : Nat} (h : hp.get b = some (.cells [x, y] 31 2 0 false true)) : storeA Tryz.prog hp 31 (.pointer (some ⟨b, 0, none⟩)) (.agg #[.string t, ownV ob n]) = some (hp.set b (some (.cells [.string t, ownV ob n] 31 2 0 false true))) := by
  refine st1 sz31 rfl h rfl rfl ?_ rfl
  show (bif true then (bif (ownV ob n).oneCell' then true else false) else false) = true
  rw [ownV_one]; rfl

/-- What 'segment' hands back. -/
def SegV (s : ByteArray) (k nx : Nat) (hp' : Tr AObj) (v : Value) (k' : Nat) : Prop :=
  match pSeg (s.data.toList.drop k) with
  | some (x, rest) => ∃ u, v = .tuple #[.agg #[.string x.tag, u], .bool true] ∧ u.cells = #[u] ∧ u.oneCell' = true ∧ RdEls (fromA nx hp') u x.els ∧ rest = s.data.toList.drop k' ∧ k < k'
  | none => ∃ t u, v = .tuple #[.agg #[.string t, u], .bool false] ∧ u.cells = #[u] ∧ u.oneCell' = true
theorem segV_none {s : ByteArray} {k k' nx : Nat} {hp' : Tr AObj} {v : Value} {t : ByteArray} {ob : Option Nat} {n : Nat} (h : pSeg (s.data.toList.drop k) = none) (hv : v = .tuple #[.agg #[.string t, ownV ob n], .bool false]) : SegV s k nx hp' v k' := by
  unfold SegV; rw [h]; exact ⟨t, _, hv, ownV_cells _ _, ownV_one _ _⟩

structure TS where
  k : Nat
  hp : Tr AObj
structure GS where
  k : Nat
  ob : Option Nat
  E : ELs
  hp : Tr AObj
  nx : Nat

def SegR : List Value := [.string ⟨#[]⟩, .slice none 0 0]

/-- Where the loop over elements stands. -/
structure GInv (hp0 : Tr AObj) (nx0 r : Nat) (s tg : ByteArray) (k : Nat) (ob : Option Nat) (E : ELs) (hp : Tr AObj) (nx : Nat) : Prop where
  sc : Scan hp r s k
  res : hp.get nx0 = some (.cells SegR 31 2 0 false true)
  bx : hp.get (nx0 + 1) = some (.cells [.string tg, ownV ob E.length] 31 2 0 false true)
  inv : EInv hp nx (nx0 + 2) ob E
  sg : SG hp0 nx0 r hp nx
  le : nx0 + 2 ≤ nx

theorem partV_form {s : ByteArray} {k k' : Nat} {v : Value} (h : PartV s k v k') : ∃ pv ok, v = .tuple #[.string pv, .bool ok] ∧ ((ok = false ∧ pPart (s.data.toList.drop k) = none) ∨ (ok = true ∧ ∃ p, pv = ⟨p.toArray⟩ ∧ pPart (s.data.toList.drop k) = some (p, s.data.toList.drop k'))) := by
  unfold PartV at h
  split at h
  · rename_i p rest hp
    obtain ⟨h1, rfl⟩ := h
    exact ⟨_, _, h1, .inr ⟨rfl, p, rfl, hp⟩⟩
  · rename_i hp
    exact ⟨_, _, h, .inl ⟨rfl, hp⟩⟩

theorem GInv.adv {hp0 hp hp' : Tr AObj} {nx0 r nx nx' k k' : Nat} {s tg : ByteArray} {ob : Option Nat} {E : ELs} (g : GInv hp0 nx0 r s tg k ob E hp nx) (hr : r < nx0) (hf : ∀ i, i < nx → i ≠ r → hp'.get i = hp.get i) (hsc : Scan hp' r s k') (hfr : Fr hp' nx') (hn : nx ≤ nx') : GInv hp0 nx0 r s tg k' ob E hp' nx' := by
  have hle := g.le
  refine ⟨hsc, by rw [hf nx0 (by omega) (by omega)]; exact g.res, by rw [hf (nx0 + 1) (by omega) (by omega)]; exact g.bx, g.inv.keep (fun i h1 h2 => hf i h2 (by omega)) hn, ⟨Nat.le_trans g.sg.le hn, hfr, fun i hi hir => ?_⟩, Nat.le_trans hle hn⟩
  rw [hf i (by omega) hir, g.sg.frame i hi hir]

set_option maxHeartbeats 4000000 in
theorem segment_c {hp : Tr AObj} {nx r k0 : Nat} {s : ByteArray} (hr : Scan hp r s k0) (hk0 : k0 ≤ s.size) (hs : s.size ≤ 20000) (hf : Fr hp nx) :
    ACall Tryz.prog 0 29 [.pointer (some ⟨r, 0, none⟩)] hp nx (fun v hp' nx' => ∃ k', k0 ≤ k' ∧ k' ≤ s.size ∧ Scan hp' r s k' ∧ SG hp nx r hp' nx' ∧ SegV s k0 nx hp' v k') := by
  refine acall_fn named7 Tryz.func29 rfl rfl ?_
  show AW _ _ _ _ ⟨tms [(0, .pointer (some ⟨r, 0, none⟩))], hp, nx, []⟩ _
  have hrl : r < nx := hf r _ hr
  refine aw_seq (aw_reg ?_)
  refine s_t (x_alloc ze31 sz31 rfl rfl ?_)
  refine s_t (x_q (e_assign rfl) rfl ?_)
  refine s_nil ?_
  generalize hh : hp.set nx _ = hp1
  have hb0 : hp1.get nx = some (.cells SegR 31 2 0 false true) := by rw [← hh]; exact Tr.get_set_same _ _ _
  have hf1 : ∀ i, i ≠ nx → hp1.get i = hp.get i := fun i hi => by rw [← hh]; exact Tr.get_set_ne _ _ hi
  have hfr1 : Fr hp1 (nx + 1) := by rw [← hh]; exact hf.new _
  clear hh
  have hr1 : Scan hp1 r s k0 := (hf1 r (by omega)).trans hr
  refine aw_seq (aw_reg ?_)
  refine s_t (x_q (e_move rfl) rfl ?_)
  refine s_t (x_q (e_nilP rfl) rfl ?_)
  refine s_t (x_q (e_fa rfl (fa67_1 _ _)) rfl ?_)
  refine s_t (x_q (e_load rfl (ld1 ag3 hr1 rfl)) rfl ?_)
  refine s_t (x_q (e_assign rfl) rfl ?_)
  refine s_nil ?_
  refine aw_seq (aw_block (aw_loop (α := TS) (fun x => ⟨tms [(0, .pointer (some ⟨r, 0, none⟩)), (2, .pointer (some ⟨nx, 0, none⟩)), (4, .int .i64 (k0 : Int))], x.hp, nx + 1, []⟩) (fun x => k0 ≤ x.k ∧ x.k ≤ s.size ∧ Scan x.hp r s x.k ∧ x.hp.get nx = some (.cells SegR 31 2 0 false true) ∧ SG hp nx r x.hp (nx + 1) ∧ (s.data.toList.drop k0).takeWhile isUp = (s.data.toList.drop k0).take (x.k - k0) ++ (s.data.toList.drop x.k).takeWhile isUp ∧ (s.data.toList.drop k0).dropWhile isUp = (s.data.toList.drop x.k).dropWhile isUp) (fun x => s.size - x.k) ⟨k0, hp1⟩ ⟨Nat.le_refl _, hk0, hr1, hb0, ⟨Nat.le_succ _, hfr1, fun i hi _ => hf1 i (by omega)⟩, by simp, rfl⟩ (wk_tms (wk_cons rfl (wk_cons rfl (wk_cons rfl wk_nil))) sub_rfl (Nat.le_refl _)) ?_))
  rintro ⟨k, h1⟩ ⟨hk1, hk2, hsc, hres, hsg, htw, hdw⟩
  simp only at hk1 hk2 hsc hres hsg htw hdw
  dsimp only
  have hup : (∃ c, k < s.size ∧ s.data.toList.drop k = c :: s.data.toList.drop (k + 1) ∧ s.data.toList[k]? = some c ∧ isUp c = true) ∨ ((k < s.size → ∃ c, s.data.toList.drop k = c :: s.data.toList.drop (k + 1) ∧ s.data.toList[k]? = some c ∧ isUp c = false) ∧ (s.data.toList.drop k).takeWhile isUp = [] ∧ (s.data.toList.drop k).dropWhile isUp = s.data.toList.drop k) := by
    by_cases hlt : k < s.size
    · have hd := drop_at hlt
      have hg := at_get hlt
      cases hu : isUp (s.data.toList.getD k 0) with
      | true => exact .inl ⟨_, hlt, hd, hg, hu⟩
      | false => exact .inr ⟨fun _ => ⟨_, hd, hg, hu⟩, by rw [hd, List.takeWhile_cons, hu]; rfl, by rw [hd, List.dropWhile_cons, hu]; rfl⟩
    · exact .inr ⟨fun h => absurd h hlt, by rw [drop_end (k := k) (by omega)]; rfl, by rw [drop_end (k := k) (by omega)]; rfl⟩
  rcases hup with ⟨c, hlt, hd, hget, hu⟩ | ⟨hno, htw0, hdw0⟩
  · refine aw_seq (aw_seq (aw_any mixed7 [(0, true), (1, false), (2, true), (3, true), (4, true), (5, true), (7, true), (8, true), (9, true), (6, true), (10, true), (11, true), (12, false), (13, true)] (by kernel_rfl) (by kernel_rfl) (by kernel_rfl) ?_))
    refine a_q rfl (e_move rfl) rfl ?_
    refine a_r rfl (x_pure rfl rfl rfl (more_c hsc (decide_eq_true (by omega))) ?_)
    refine a_q rfl (e_move rfl) rfl ?_
    refine a_qg rfl rfl (e_move rfl) rfl ?_
    refine a_qg rfl rfl (e_nilP rfl) rfl ?_
    refine a_qg rfl rfl (e_fa rfl (fa67_0 _ _)) rfl ?_
    refine a_qg rfl rfl (e_move rfl) rfl ?_
    refine a_qg rfl rfl (e_nilP rfl) rfl ?_
    refine a_qg rfl rfl (e_fa rfl (fa67_1 _ _)) rfl ?_
    refine a_qg rfl rfl (e_load rfl (ld1 ag9 hsc rfl)) rfl ?_
    refine a_qg rfl rfl (e_load rfl (ld1 ag3 hsc rfl)) rfl ?_
    refine a_qg rfl rfl (e_ix rfl rfl (ixStr un9 hget)) rfl ?_
    refine a_rg rfl rfl (x_pure rfl rfl rfl (upper_c hu) ?_)
    refine a_q rfl (e_pickT rfl rfl rfl) rfl ?_
    refine (aw_ifT rfl (aw_skip ?_))
    refine aw_block ?_
    refine aw_reg ?_
    refine s_t (x_q (e_move rfl) rfl ?_)
    refine s_t (x_q (e_nilP rfl) rfl ?_)
    refine s_t (x_q (e_fa rfl (fa67_1 _ _)) rfl ?_)
    refine s_t (x_q (e_load rfl (ld1 ag3 hsc rfl)) rfl ?_)
    refine s_t (x_q (e_bin rfl rfl (b_addN _ 1 (by omega))) rfl ?_)
    refine s_t (x_q (e_nilP rfl) rfl ?_)
    refine s_t (x_q (e_fa rfl (fa67_1 _ _)) rfl ?_)
    refine s_t (x_store rfl rfl (st1 sz3 rfl hsc rfl rfl rfl rfl) ?_)
    refine s_nil ?_
    generalize hh : h1.set r _ = h2
    have hsc2 : Scan h2 r s (k + 1) := by rw [← hh]; exact Tr.get_set_same _ _ _
    have hf2 : ∀ i, i ≠ r → h2.get i = h1.get i := fun i hi => by rw [← hh]; exact Tr.get_set_ne _ _ hi
    have hfr2 : Fr h2 (nx + 1) := by rw [← hh]; exact hsg.fr.set (by omega) _
    clear hh
    refine ⟨⟨k + 1, h2⟩, ⟨by simp only; omega, by simp only; omega, hsc2, by rw [hf2 nx (by omega)]; exact hres, ⟨Nat.le_succ _, hfr2, fun i hi hir => by rw [hf2 i hir, hsg.frame i hi hir]⟩, ?_, ?_⟩, by simp only; omega, wk_tms (wk_cons rfl (wk_cons rfl (wk_cons rfl wk_nil))) sub_rfl (Nat.le_refl _)⟩
    · rw [htw, hd, List.takeWhile_cons, hu]
      simp only [if_true]
      have hl0 : k - k0 < (s.data.toList.drop k0).length := by rw [List.length_drop, size_list]; omega
      have hge : (s.data.toList.drop k0)[k - k0]'hl0 = c := by
        rw [List.getElem_drop]
        have : k0 + (k - k0) = k := by omega
        have h3 := hget
        rw [List.getElem?_eq_getElem (by rw [size_list]; exact hlt)] at h3
        simp only [this]
        exact Option.some.inj h3
      rw [show k + 1 - k0 = (k - k0) + 1 from by omega, List.take_succ_eq_append_getElem hl0, hge]
      simp
    · rw [hdw, hd, List.dropWhile_cons, hu]; rfl
  rw [htw0, List.append_nil] at htw
  rw [hdw0] at hdw
  have htl : (s.data.toList.drop k0).takeWhile isUp = (s.data.toList.drop k0).take (k - k0) := htw
  have goon : ∀ (l : List (Nat × Value)), lk l 0 = some (.pointer (some ⟨r, 0, none⟩)) → lk l 2 = some (.pointer (some ⟨nx, 0, none⟩)) → lk l 4 = some (.int .i64 (k0 : Int)) → Wk ⟨tms l, h1, nx + 1, []⟩ ⟨tms [(0, .pointer (some ⟨r, 0, none⟩)), (2, .pointer (some ⟨nx, 0, none⟩)), (4, .int .i64 (k0 : Int))], h1, nx + 1, []⟩ :=
    fun l a0 a2 a4 => wk_tms (wk_cons a0 (wk_cons a2 (wk_cons a4 wk_nil))) sub_rfl (Nat.le_refl _)
  refine aw_seq (aw_mono (Q := fun x st => x = .exit 0 ∧ Wk st ⟨tms [(0, .pointer (some ⟨r, 0, none⟩)), (2, .pointer (some ⟨nx, 0, none⟩)), (4, .int .i64 (k0 : Int))], h1, nx + 1, []⟩) ?_ ?_)
  · by_cases hlt : k < s.size
    · obtain ⟨c, _, hget, hu⟩ := hno hlt
      refine aw_seq (aw_any mixed7 [(0, true), (1, false), (2, true), (3, true), (4, true), (5, true), (7, true), (8, true), (9, true), (6, true), (10, true), (11, true), (12, false), (13, true)] (by kernel_rfl) (by kernel_rfl) (by kernel_rfl) ?_)
      refine a_q rfl (e_move rfl) rfl ?_
      refine a_r rfl (x_pure rfl rfl rfl (more_c hsc (decide_eq_true (by omega))) ?_)
      refine a_q rfl (e_move rfl) rfl ?_
      refine a_qg rfl rfl (e_move rfl) rfl ?_
      refine a_qg rfl rfl (e_nilP rfl) rfl ?_
      refine a_qg rfl rfl (e_fa rfl (fa67_0 _ _)) rfl ?_
      refine a_qg rfl rfl (e_move rfl) rfl ?_
      refine a_qg rfl rfl (e_nilP rfl) rfl ?_
      refine a_qg rfl rfl (e_fa rfl (fa67_1 _ _)) rfl ?_
      refine a_qg rfl rfl (e_load rfl (ld1 ag9 hsc rfl)) rfl ?_
      refine a_qg rfl rfl (e_load rfl (ld1 ag3 hsc rfl)) rfl ?_
      refine a_qg rfl rfl (e_ix rfl rfl (ixStr un9 hget)) rfl ?_
      refine a_rg rfl rfl (x_pure rfl rfl rfl (upper_c hu) ?_)
      refine a_q rfl (e_pickT rfl rfl rfl) rfl ?_
      refine (aw_ifF rfl (aw_exit ?_))
      exact ⟨rfl, goon _ rfl rfl rfl⟩
    · refine aw_seq (aw_any mixed7 [(0, true), (1, false), (2, true), (3, true), (4, true), (5, true), (7, true), (8, true), (9, true), (6, true), (10, true), (11, true), (12, false), (13, true)] (by kernel_rfl) (by kernel_rfl) (by kernel_rfl) ?_)
      refine a_q rfl (e_move rfl) rfl ?_
      refine a_r rfl (x_pure rfl rfl rfl (more_c hsc (decide_eq_false (by omega))) ?_)
      refine a_q rfl (e_move rfl) rfl ?_
      refine a_qn rfl rfl rfl rfl ?_
      refine a_qn rfl rfl rfl rfl ?_
      refine a_qn rfl rfl rfl rfl ?_
      refine a_qn rfl rfl rfl rfl ?_
      refine a_qn rfl rfl rfl rfl ?_
      refine a_qn rfl rfl rfl rfl ?_
      refine a_qn rfl rfl rfl rfl ?_
      refine a_qn rfl rfl rfl rfl ?_
      refine a_qn rfl rfl rfl rfl ?_
      refine a_rn rfl rfl rfl ?_
      refine a_q rfl (e_pickF rfl rfl rfl) rfl ?_
      refine (aw_ifF rfl (aw_exit ?_))
      exact ⟨rfl, goon _ rfl rfl rfl⟩
  rintro _ st ⟨rfl, hwk⟩
  refine aw_wk hwk ?_
  clear hwk goon hno
  generalize htg : (⟨((s.data.toList.drop k0).take (k - k0)).toArray⟩ : ByteArray) = tg
  have hsl : sliceA Tryz.prog h1 9 (.string s) (some (.int .i64 (k0 : Int))) (some (.int .i64 (k : Int))) none = some (.string tg) := by rw [← htg]; exact slStr hk1 hk2
  have htgl : (s.data.toList.drop k0).takeWhile isUp = tg.data.toList := by rw [← htg, htl]
  refine aw_seq (aw_any mixed7 [(0, true), (1, true), (2, true), (4, true), (5, true), (6, true), (7, true), (3, true), (8, true), (9, true), (10, true), (11, false), (12, false)] (by kernel_rfl) (by kernel_rfl) (by kernel_rfl) ?_)
  refine a_q rfl (e_move rfl) rfl ?_
  refine a_q rfl (e_nilP rfl) rfl ?_
  refine a_q rfl (e_fa rfl (fa67_0 _ _)) rfl ?_
  refine a_q rfl (e_move rfl) rfl ?_
  refine a_q rfl (e_move rfl) rfl ?_
  refine a_q rfl (e_nilP rfl) rfl ?_
  refine a_q rfl (e_fa rfl (fa67_1 _ _)) rfl ?_
  refine a_q rfl (e_load rfl (ld1 ag9 hsc rfl)) rfl ?_
  refine a_q rfl (e_load rfl (ld1 ag3 hsc rfl)) rfl ?_
  refine a_q rfl (e_slice rfl rfl rfl rfl hsl) rfl ?_
  refine a_q rfl (e_build rfl (bd31 _)) rfl ?_
  refine a_r rfl (x_alloc ze31 sz31 rfl rfl ?_)
  refine a_r rfl (x_store rfl rfl (stSeg (ob := none) (n := 0) (Tr.get_set_same _ _ _)) ?_)
  generalize hh : Tr.set (h1.set (nx + 1) _) (nx + 1) _ = h2
  have hbx : h2.get (nx + 1) = some (.cells [.string tg, ownV none 0] 31 2 0 false true) := by rw [← hh]; exact Tr.get_set_same _ _ _
  have hf2 : ∀ i, i ≠ nx + 1 → h2.get i = h1.get i := fun i hi => by rw [← hh, Tr.get_set_ne _ _ hi, Tr.get_set_ne _ _ hi]
  have hfr2 : Fr h2 (nx + 2) := by rw [← hh]; exact (hsg.fr.new _).set (Nat.lt_succ_self _) _
  clear hh
  have hsg2 : SG hp nx r h2 (nx + 2) := ⟨by omega, hfr2, fun i hi hir => by rw [hf2 i (by omega), hsg.frame i hi hir]⟩
  have hsc2 : Scan h2 r s k := by unfold Scan; rw [hf2 r (by omega)]; exact hsc
  have hres2 : h2.get nx = some (.cells SegR 31 2 0 false true) := by rw [hf2 nx (by omega)]; exact hres
  have hseg : pSeg (s.data.toList.drop k0) = if isTag tg.data.toList = true then (pEls [] (s.data.toList.drop k)).map fun x => (⟨tg, x.1⟩, x.2) else none := by
    unfold pSeg; rw [htgl, hdw]
  have gi : GInv hp nx r s tg k none [] h2 (nx + 2) := ⟨hsc2, hres2, hbx, EInv.nil _ _ _, hsg2, Nat.le_refl _⟩
  have hkk : tg.size ≤ k - k0 := by
    have h2 := size_list tg
    rw [← htgl, htl, List.length_take] at h2
    omega
  clear hsl htl htw htw0 hdw hdw0 hsg2 hsc2 hres2 hbx hf2 hfr2 htg
  -- every way out with 'false'
  have bad : ∀ {k2 : Nat} {ob : Option Nat} {E : ELs} {h3 : Tr AObj} {n3 : Nat}, GInv hp nx r s tg k2 ob E h3 n3 → k0 ≤ k2 → k2 ≤ s.size → pSeg (s.data.toList.drop k0) = none → ∀ {l : List (Nat × Value)}, lk l 2 = some (.pointer (some ⟨nx, 0, none⟩)) → lk l 3 = some (.bool false) → FnW Tryz.prog Tryz.f29 (fun v hp' nx' => ∃ k', k0 ≤ k' ∧ k' ≤ s.size ∧ Scan hp' r s k' ∧ SG hp nx r hp' nx' ∧ SegV s k0 nx hp' v k') .ret ⟨tms l, h3.set nx (some (.cells [.string tg, ownV ob E.length] 31 2 0 false true)), n3, []⟩ := by
    intro k2 ob E h3 n3 g hk3 hk4 hnone l e2 e3
    have hld : ldVar Tryz.prog (h3.set nx (some (.cells [.string tg, ownV ob E.length] 31 2 0 false true))) 31 nx 0 = some (.agg #[.string tg, ownV ob E.length]) := ldN ag31 sz31 (Tr.get_set_same _ _ _) rfl rfl
    refine fn_ret (vs := [.agg #[.string tg, ownV ob E.length], .bool false]) ?_ ⟨k2, hk3, hk4, ?_, ⟨g.sg.le, g.sg.fr.set (by have := g.le; omega) _, fun i hi hir => ?_⟩, segV_none hnone rfl⟩
    · show resL Tryz.prog l _ [.cell 2 31, .tmp 3] = _
      simp only [resL, e2, e3, hld]
    · unfold Scan; rw [Tr.get_set_ne _ _ (by omega)]; exact g.sc
    · rw [Tr.get_set_ne _ _ (by omega)]; exact g.sg.frame i hi hir
  cases htag : isTag tg.data.toList with
  | false =>
    rw [htag] at hseg
    refine aw_seq (aw_seq (aw_reg ?_))
    refine s_t (x_q (e_fa rfl (fa31_0 _ _)) rfl ?_)
    refine s_t (x_q (e_load rfl (ld1 ag9 gi.bx rfl)) rfl ?_)
    refine s_t (x_pure rfl rfl rfl (tag_c htag) ?_)
    refine s_t (x_q (e_un rfl rfl) rfl ?_)
    refine s_nil ?_
    refine (aw_ifT rfl ?_)
    refine aw_seq (aw_reg ?_)
    refine s_t (x_q (e_load rfl (ldN ag31 sz31 gi.bx rfl rfl)) rfl ?_)
    refine s_t (x_store rfl rfl (stSeg gi.res) ?_)
    refine s_t (x_q (e_assign rfl) rfl ?_)
    refine s_nil ?_
    exact aw_ret (bad gi hk1 hk2 hseg rfl rfl)
  | true =>
  rw [htag, if_pos rfl] at hseg
  have htgs := tag_len htag
  have hk3 : k0 < k := by omega
  refine aw_seq (aw_seq (aw_reg ?_))
  refine s_t (x_q (e_fa rfl (fa31_0 _ _)) rfl ?_)
  refine s_t (x_q (e_load rfl (ld1 ag9 gi.bx rfl)) rfl ?_)
  refine s_t (x_pure rfl rfl rfl (tag_c htag) ?_)
  refine s_t (x_q (e_un rfl rfl) rfl ?_)
  refine s_nil ?_
  refine (aw_ifF rfl (aw_skip ?_))
  refine aw_seq (aw_block (aw_loop (α := GS) (fun x => ⟨tms [(0, .pointer (some ⟨r, 0, none⟩)), (2, .pointer (some ⟨nx, 0, none⟩)), (5, .pointer (some ⟨nx + 1, 0, none⟩))], x.hp, x.nx, []⟩) (fun x => k ≤ x.k ∧ x.k ≤ s.size ∧ GInv hp nx r s tg x.k x.ob x.E x.hp x.nx ∧ x.E.length ≤ x.k ∧ (∀ p ∈ x.E, p.2.length ≤ x.k) ∧ pEls [] (s.data.toList.drop k) = pEls (x.E.map (·.2)) (s.data.toList.drop x.k)) (fun x => s.size - x.k) ⟨k, none, [], h2, nx + 2⟩ ⟨Nat.le_refl _, hk2, gi, Nat.zero_le _, fun p hp => (by cases hp), rfl⟩ (wk_tms (wk_cons rfl (wk_cons rfl (wk_cons rfl wk_nil))) sub_rfl (Nat.le_refl _)) ?_))
  rintro ⟨k2, ob, E, h3, n3⟩ ⟨hk4, hk5, g3, hEl, hpl, hsp⟩
  simp only at hk4 hk5 g3 hEl hpl hsp
  dsimp only
  clear gi
  by_cases hlt : k2 < s.size
  case neg =>
    rw [drop_end (k := k2) (by omega), pEls_nil] at hsp
    have hnone : pSeg (s.data.toList.drop k0) = none := by rw [hseg, hsp]; rfl
    refine aw_seq (aw_seq (aw_reg ?_))
    refine s_t (x_q (e_move rfl) rfl ?_)
    refine s_t (x_pure rfl rfl rfl (more_c g3.sc (decide_eq_false (by omega))) ?_)
    refine s_nil ?_
    refine (aw_ifF rfl (aw_exit ?_))
    refine aw_seq (aw_reg ?_)
    refine s_t (x_q (e_load rfl (ldN ag31 sz31 g3.bx rfl rfl)) rfl ?_)
    refine s_t (x_store rfl rfl (stSeg g3.res) ?_)
    refine s_t (x_q (e_assign rfl) rfl ?_)
    refine s_nil ?_
    exact aw_ret (bad g3 (by omega) hk5 hnone rfl rfl)
  have hget := at_get hlt
  rw [drop_at hlt] at hsp
  generalize s.data.toList.getD k2 0 = c at *
  refine aw_seq (aw_seq (aw_reg ?_))
  refine s_t (x_q (e_move rfl) rfl ?_)
  refine s_t (x_pure rfl rfl rfl (more_c g3.sc (decide_eq_true (by omega))) ?_)
  refine s_nil ?_
  refine (aw_ifT rfl (aw_skip ?_))
  refine aw_block ?_
  refine aw_seq (aw_any mixed7 [(0, true), (1, true), (2, true), (4, true), (5, true), (6, true), (3, true), (7, true), (8, true), (9, true)] (by kernel_rfl) (by kernel_rfl) (by kernel_rfl) ?_)
  refine a_q rfl (e_move rfl) rfl ?_
  refine a_q rfl (e_nilP rfl) rfl ?_
  refine a_q rfl (e_fa rfl (fa67_0 _ _)) rfl ?_
  refine a_q rfl (e_move rfl) rfl ?_
  refine a_q rfl (e_nilP rfl) rfl ?_
  refine a_q rfl (e_fa rfl (fa67_1 _ _)) rfl ?_
  refine a_q rfl (e_load rfl (ld1 ag9 g3.sc rfl)) rfl ?_
  refine a_q rfl (e_load rfl (ld1 ag3 g3.sc rfl)) rfl ?_
  refine a_q rfl (e_ix rfl rfl (ixStr un9 hget)) rfl ?_
  refine a_q rfl (e_assign rfl) rfl ?_
  refine aw_seq (aw_reg ?_)
  refine s_t (x_q (e_move rfl) rfl ?_)
  refine s_t (x_q (e_nilP rfl) rfl ?_)
  refine s_t (x_q (e_fa rfl (fa67_1 _ _)) rfl ?_)
  refine s_t (x_q (e_load rfl (ld1 ag3 g3.sc rfl)) rfl ?_)
  refine s_t (x_q (e_bin rfl rfl (b_addN _ 1 (by omega))) rfl ?_)
  refine s_t (x_q (e_nilP rfl) rfl ?_)
  refine s_t (x_q (e_fa rfl (fa67_1 _ _)) rfl ?_)
  refine s_t (x_store rfl rfl (st1 sz3 rfl g3.sc rfl rfl rfl rfl) ?_)
  refine s_nil ?_
  have hrn3 : r < n3 := g3.sg.fr r _ g3.sc
  have g4 : GInv hp nx r s tg (k2 + 1) ob E (h3.set r (some (.cells [.string s, .int .i64 ((k2 + 1 : Nat) : Int)] 67 2 0 false true))) n3 := g3.adv hrl (fun i _ hi => Tr.get_set_ne _ _ hi) (Tr.get_set_same _ _ _) (g3.sg.fr.set hrn3 _) (Nat.le_refl _)
  have he : putL [Value.string s, .int .i64 (k2 : Int)] (0 + 1) (Value.int .i64 ((k2 + 1 : Nat) : Int)).cells.toList = [.string s, .int .i64 ((k2 + 1 : Nat) : Int)] := rfl
  rw [he]
  generalize h3.set r _ = h4 at *
  refine aw_seq (aw_seq (aw_reg ?_))
  refine s_t (x_q (e_move rfl) rfl ?_)
  refine s_nil ?_
  refine aw_mono (Q := fun x st => (x = .normal ∧ ∃ bo E0 oi ss h5 n5, Wk st ⟨tms [(0, .pointer (some ⟨r, 0, none⟩)), (2, .pointer (some ⟨nx, 0, none⟩)), (5, .pointer (some ⟨nx + 1, 0, none⟩))], h5, n5, []⟩ ∧ GInv hp nx r s tg (k2 + 1) (some bo) (E0 ++ [(oi, ss)]) h5 n5 ∧ E0.length ≤ k2 ∧ (∀ p ∈ E0 ++ [(oi, ss)], p.2.length ≤ k2) ∧ pEls [] (s.data.toList.drop k) = pNext ((E0 ++ [(oi, ss)]).map (·.2)) (s.data.toList.drop (k2 + 1))) ∨ (x = .ret ∧ FnW Tryz.prog Tryz.f29 (fun v hp' nx' => ∃ k', k0 ≤ k' ∧ k' ≤ s.size ∧ Scan hp' r s k' ∧ SG hp nx r hp' nx' ∧ SegV s k0 nx hp' v k') .ret st)) ?_ ?_
  · refine aw_block ?_
    by_cases h39 : c = 39
    · subst h39
      rw [pEls_end] at hsp
      refine aw_seq (aw_reg ?_)
      refine s_t (x_q (e_bin rfl rfl rfl) rfl ?_)
      refine s_t (x_q (e_assign rfl) rfl ?_)
      refine s_nil ?_
      refine (aw_ifT rfl ?_)
      refine aw_seq (aw_reg ?_)
      refine s_t (x_q (e_load rfl (ldN ag31 sz31 g4.bx rfl rfl)) rfl ?_)
      refine s_t (x_store rfl rfl (stSeg g4.res) ?_)
      refine s_t (x_q (e_assign rfl) rfl ?_)
      refine s_nil ?_
      refine aw_ret (.inr ⟨rfl, ?_⟩)
      have hld : ldVar Tryz.prog (h4.set nx (some (.cells [.string tg, ownV ob E.length] 31 2 0 false true))) 31 nx 0 = some (.agg #[.string tg, ownV ob E.length]) := ldN ag31 sz31 (Tr.get_set_same _ _ _) rfl rfl
      have hle4 := g4.le
      have hrs : ∀ l : List (Nat × Value), lk l 2 = some (.pointer (some ⟨nx, 0, none⟩)) → lk l 3 = some (.bool true) → resL Tryz.prog l (h4.set nx (some (.cells [.string tg, ownV ob E.length] 31 2 0 false true))) [.cell 2 31, .tmp 3] = some [.agg #[.string tg, ownV ob E.length], .bool true] := fun l e2 e3 => by simp only [resL, e2, e3, hld]
      refine fn_ret (vs := [.agg #[.string tg, ownV ob E.length], .bool true]) (hrs _ rfl rfl) ⟨k2 + 1, by omega, by omega, ?_, ⟨g4.sg.le, g4.sg.fr.set (by omega) _, fun i hi hir => ?_⟩, ?_⟩
      · unfold Scan; rw [Tr.get_set_ne _ _ (by omega)]; exact g4.sc
      · rw [Tr.get_set_ne _ _ (by omega)]; exact g4.sg.frame i hi hir
      · unfold SegV
        rw [hseg, hsp]
        exact ⟨_, rfl, ownV_cells _ _, ownV_one _ _, (g4.inv.keep (hp' := fromA nx (h4.set nx (some (.cells [.string tg, ownV ob E.length] 31 2 0 false true)))) (fun i h1 h2 => by rw [fromA_ge (by omega), Tr.get_set_ne _ _ (by omega)]) (Nat.le_refl _)).rd, rfl, by omega⟩
    have hb39 := bIs (show ((c.toNat : Int) == 39) = false by rw [beq_eq_false_iff_ne]; exact byte_ne (n := 39) (by decide) h39)
    by_cases h43 : c = 43
    · subst h43
      rw [pEls_plus] at hsp
      obtain ⟨bo, h5, n5, happ, hinv5, hle5, hfr5, hfm5⟩ := e_app0 g4.inv g4.le (by omega)
      have g5 : h5.get (nx + 1) = some (.cells [.string tg, ownV ob E.length] 31 2 0 false true) := by rw [hfm5 _ (by omega)]; exact g4.bx
      refine aw_seq (aw_reg ?_)
      refine s_t (x_q (e_bin rfl rfl rfl) rfl ?_)
      refine s_t (x_q (e_assign rfl) rfl ?_)
      refine s_nil ?_
      refine (aw_ifF rfl ?_)
      refine aw_seq (aw_reg ?_)
      refine s_t (x_q (e_bin rfl rfl rfl) rfl ?_)
      refine s_t (x_q (e_assign rfl) rfl ?_)
      refine s_nil ?_
      refine (aw_ifT rfl ?_)
      refine aw_reg ?_
      refine s_t (x_q (e_fa rfl (fa31_1 _ _)) rfl ?_)
      refine s_t (x_q (e_load rfl (ld1 ag29 g4.bx rfl)) rfl ?_)
      refine s_t (x_bs rfl (bs29 _) rfl ?_)
      refine s_t (x_app rfl rfl happ rfl ?_)
      refine s_t (x_q (e_fa rfl (fa31_1 _ _)) rfl ?_)
      refine s_t (x_store rfl rfl (st1v sz29 (ownV_cells _ _) (ownV_one _ _) g5 rfl rfl) ?_)
      refine s_nil ?_
      have hle4 := g4.le
      refine .inl ⟨rfl, bo, E, none, [], _, n5, wk_tms (wk_cons rfl (wk_cons rfl (wk_cons rfl wk_nil))) sub_rfl (Nat.le_refl _), ⟨?_, ?_, ?_, hinv5.keep (fun i h1 h2 => Tr.get_set_ne _ _ (by omega)) (Nat.le_refl _), ⟨Nat.le_trans g4.sg.le hle5, (hfr5 g4.sg.fr).set (by omega) _, fun i hi hir => ?_⟩, Nat.le_trans g4.le hle5⟩, by omega, fun p hp2 => ?_, ?_⟩
      · unfold Scan; rw [Tr.get_set_ne _ _ (by omega), hfm5 _ (by omega)]; exact g4.sc
      · rw [Tr.get_set_ne _ _ (by omega), hfm5 _ (by omega)]; exact g4.res
      · rw [List.length_append]; exact Tr.get_set_same _ _ _
      · rw [Tr.get_set_ne _ _ (by omega), hfm5 _ (by omega)]; exact g4.sg.frame i hi hir
      · rcases List.mem_append.1 hp2 with hp2 | hp2
        · exact hpl p hp2
        · rw [List.mem_singleton.1 hp2]; exact Nat.zero_le _
      · rw [hsp, List.map_append]; rfl
    have hb43 := bIs (show ((c.toNat : Int) == 43) = false by rw [beq_eq_false_iff_ne]; exact byte_ne (n := 43) (by decide) h43)
    by_cases h58 : c = 58
    · subst h58
      rw [pEls_colon] at hsp
      rcases List.eq_nil_or_concat E with hE | ⟨E0, ⟨oi, ss⟩, hE⟩
      · subst hE
        rw [List.map_nil, if_pos rfl] at hsp
        have hnone : pSeg (s.data.toList.drop k0) = none := by rw [hseg, hsp]; rfl
        have hob0 : ob = none := by
          have := g4.inv.out.2
          cases ob with
          | none => rfl
          | some b => exact absurd this.1 (Nat.lt_irrefl 0)
        subst hob0
        refine aw_seq (aw_reg ?_)
        refine s_t (x_q (e_bin rfl rfl rfl) rfl ?_)
        refine s_t (x_q (e_assign rfl) rfl ?_)
        refine s_nil ?_
        refine (aw_ifF rfl ?_)
        refine aw_seq (aw_reg ?_)
        refine s_t (x_q (e_bin rfl rfl rfl) rfl ?_)
        refine s_t (x_q (e_assign rfl) rfl ?_)
        refine s_nil ?_
        refine (aw_ifF rfl ?_)
        refine aw_seq (aw_reg ?_)
        refine s_t (x_q (e_bin rfl rfl rfl) rfl ?_)
        refine s_t (x_q (e_assign rfl) rfl ?_)
        refine s_nil ?_
        refine (aw_ifT rfl ?_)
        refine aw_seq (aw_reg ?_)
        refine s_t (x_q (e_fa rfl (fa31_1 _ _)) rfl ?_)
        refine s_t (x_q (e_load rfl (ld1 ag29 g4.bx rfl)) rfl ?_)
        refine s_t (x_q (e_len rfl (lenSl un29)) rfl ?_)
        refine s_t (x_q (e_bin rfl rfl rfl) rfl ?_)
        refine s_nil ?_
        refine (aw_ifT rfl ?_)
        refine aw_seq (aw_reg ?_)
        refine s_t (x_q (e_load rfl (ldN ag31 sz31 g4.bx rfl rfl)) rfl ?_)
        refine s_t (x_store rfl rfl (stSeg g4.res) ?_)
        refine s_t (x_q (e_assign rfl) rfl ?_)
        refine s_nil ?_
        exact aw_ret (.inr ⟨rfl, bad g4 (by omega) (by omega) hnone rfl rfl⟩)
      · rw [List.concat_eq_append] at hE
        subst hE
        rw [if_neg (by simp)] at hsp
        obtain ⟨bo, hbo⟩ : ∃ bo, ob = some bo := by
          have := g4.inv.out.2
          cases ob with
          | none => simp only [List.length_append, List.length_singleton] at this; omega
          | some b => exact ⟨b, rfl⟩
        subst hbo
        have hlen : (E0 ++ [(oi, ss)]).length = E0.length + 1 := by simp
        have hbx := g4.bx
        rw [hlen] at hbx
        rw [hlen] at hEl
        have hne0 : some (Value.bool (((E0.length + 1 : Nat) : Int) == 0)) = some (Value.bool false) := eF (by omega)
        refine aw_seq (aw_reg ?_)
        refine s_t (x_q (e_bin rfl rfl rfl) rfl ?_)
        refine s_t (x_q (e_assign rfl) rfl ?_)
        refine s_nil ?_
        refine (aw_ifF rfl ?_)
        refine aw_seq (aw_reg ?_)
        refine s_t (x_q (e_bin rfl rfl rfl) rfl ?_)
        refine s_t (x_q (e_assign rfl) rfl ?_)
        refine s_nil ?_
        refine (aw_ifF rfl ?_)
        refine aw_seq (aw_reg ?_)
        refine s_t (x_q (e_bin rfl rfl rfl) rfl ?_)
        refine s_t (x_q (e_assign rfl) rfl ?_)
        refine s_nil ?_
        refine (aw_ifT rfl ?_)
        refine aw_seq (aw_reg ?_)
        refine s_t (x_q (e_fa rfl (fa31_1 _ _)) rfl ?_)
        refine s_t (x_q (e_load rfl (ld1 ag29 hbx rfl)) rfl ?_)
        refine s_t (x_q (e_len rfl (lenSl un29)) rfl ?_)
        refine s_t (x_q (e_bin rfl rfl hne0) rfl ?_)
        refine s_nil ?_
        refine (aw_ifF rfl (aw_skip ?_))
        exact .inl ⟨rfl, bo, E0, oi, ss, h4, n3, wk_tms (wk_cons rfl (wk_cons rfl (wk_cons rfl wk_nil))) sub_rfl (Nat.le_refl _), g4, by omega, hpl, hsp⟩
    have hb58 := bIs (show ((c.toNat : Int) == 58) = false by rw [beq_eq_false_iff_ne]; exact byte_ne (n := 58) (by decide) h58)
    rw [pEls_other _ _ h39 h43 h58] at hsp
    have hnone : pSeg (s.data.toList.drop k0) = none := by rw [hseg, hsp]; rfl
    refine aw_seq (aw_reg ?_)
    refine s_t (x_q (e_bin rfl rfl hb39) rfl ?_)
    refine s_t (x_q (e_assign rfl) rfl ?_)
    refine s_nil ?_
    refine (aw_ifF rfl ?_)
    refine aw_seq (aw_reg ?_)
    refine s_t (x_q (e_bin rfl rfl hb43) rfl ?_)
    refine s_t (x_q (e_assign rfl) rfl ?_)
    refine s_nil ?_
    refine (aw_ifF rfl ?_)
    refine aw_seq (aw_reg ?_)
    refine s_t (x_q (e_bin rfl rfl hb58) rfl ?_)
    refine s_t (x_q (e_assign rfl) rfl ?_)
    refine s_nil ?_
    refine (aw_ifF rfl ?_)
    refine aw_seq (aw_reg ?_)
    refine s_t (x_q (e_load rfl (ldN ag31 sz31 g4.bx rfl rfl)) rfl ?_)
    refine s_t (x_store rfl rfl (stSeg g4.res) ?_)
    refine s_t (x_q (e_assign rfl) rfl ?_)
    refine s_nil ?_
    exact aw_ret (.inr ⟨rfl, bad g4 (by omega) (by omega) hnone rfl rfl⟩)
  rintro _ st (⟨rfl, bo, E0, oi, ss, h5, n5, hwk, g5, hE0, hps, hsp2⟩ | ⟨rfl, hfn⟩)
  case inr => exact hfn
  refine aw_wk hwk ?_
  clear hwk hsp g4 g3 hpl hEl h4
  refine aw_seq (aw_reg ?_)
  refine s_t (x_q (e_move rfl) rfl ?_)
  refine s_t (x_call rfl rfl rfl (part_c g5.sc (by omega) (by omega) g5.sg.fr) ?_)
  rintro v h6 n6 ⟨k3, hk6, hk7, hsc6, hsg6, hpv⟩
  have g6 := g5.adv hrl hsg6.frame hsc6 hsg6.fr hsg6.le
  obtain ⟨pv, ok, rfl, hpw⟩ := partV_form hpv
  refine s_t (x_q (e_move rfl) rfl ?_)
  refine s_t (x_q (e_ext rfl rfl) rfl ?_)
  refine s_t (x_q (e_ext rfl rfl) rfl ?_)
  refine s_t (x_q (e_assign rfl) rfl ?_)
  refine s_t (x_q (e_assign rfl) rfl ?_)
  refine s_nil ?_
  unfold pNext at hsp2
  rcases hpw with ⟨rfl, hpp⟩ | ⟨rfl, p, rfl, hpp⟩
  · rw [hpp] at hsp2
    have hnone : pSeg (s.data.toList.drop k0) = none := by rw [hseg, hsp2]; rfl
    refine aw_seq (aw_seq (aw_reg ?_))
    refine s_t (x_q (e_move rfl) rfl ?_)
    refine s_t (x_q (e_un rfl rfl) rfl ?_)
    refine s_nil ?_
    refine (aw_ifT rfl ?_)
    refine aw_seq (aw_reg ?_)
    refine s_t (x_q (e_load rfl (ldN ag31 sz31 g6.bx rfl rfl)) rfl ?_)
    refine s_t (x_store rfl rfl (stSeg g6.res) ?_)
    refine s_t (x_q (e_assign rfl) rfl ?_)
    refine s_nil ?_
    exact aw_ret (bad g6 (by omega) (by omega) hnone rfl rfl)
  · rw [hpp] at hsp2
    simp only at hsp2
    have hlen : (E0 ++ [(oi, ss)]).length = E0.length + 1 := by simp
    have hbx := g6.bx
    rw [hlen] at hbx
    have hout := g6.inv.out.2.2.2
    rw [ev_app] at hout
    have hev : ev [(oi, ss)] = [ownV oi ss.length] := rfl
    rw [hev] at hout
    have hcell : (ev E0 ++ [ownV oi ss.length])[E0.length]? = some (ownV oi ss.length) := by
      rw [List.getElem?_append_right (by rw [ev_len]; exact Nat.le_refl _), ev_len, Nat.sub_self]; rfl
    have hidx : indexAddrA Tryz.prog 29 (ownV (some bo) (E0.length + 1)) (.int .i64 ((E0.length : Nat) : Int)) = some (.pointer (some ⟨bo, E0.length, none⟩)) := by
      have h := iaSl (P := Tryz.prog) (t := 29) (e := 28) (n := 1) (k := .i64) (b := bo) (o := 0) (len := E0.length + 1) (cap := OPEN) (i := E0.length) un29 sz28 (Nat.lt_succ_self _)
      rw [show 0 + E0.length * 1 = E0.length from by omega] at h
      exact h
    have hsub : binA Tryz.prog .sub 3 false true (.int .i64 ((E0.length + 1 : Nat) : Int)) (.int .i64 1) = some (.int .i64 ((E0.length : Nat) : Int)) := b_subN (E0.length + 1) 1 (by omega) (by omega)
    have hssl : ss.length ≤ k2 := hps _ (List.mem_append_right _ (List.mem_singleton.2 rfl))
    obtain ⟨bi, h7, n7, happ, hgo, hinv7, hle7, hfr7, hfm7⟩ := e_app1 g6.inv g6.le (by omega) ⟨p.toArray⟩
    refine aw_seq (aw_seq (aw_reg ?_))
    refine s_t (x_q (e_move rfl) rfl ?_)
    refine s_t (x_q (e_un rfl rfl) rfl ?_)
    refine s_nil ?_
    refine (aw_ifF rfl (aw_skip ?_))
    refine aw_seq (aw_reg ?_)
    refine s_t (x_q (e_fa rfl (fa31_1 _ _)) rfl ?_)
    refine s_t (x_q (e_load rfl (ld1 ag29 hbx rfl)) rfl ?_)
    refine s_t (x_q (e_fa rfl (fa31_1 _ _)) rfl ?_)
    refine s_t (x_q (e_load rfl (ld1 ag29 hbx rfl)) rfl ?_)
    refine s_t (x_q (e_len rfl (lenSl un29)) rfl ?_)
    refine s_t (x_q (e_bin rfl rfl hsub) rfl ?_)
    refine s_t (x_q (e_ia rfl rfl hidx) rfl ?_)
    refine s_t (x_q (e_assign rfl) rfl ?_)
    refine s_nil ?_
    refine aw_reg ?_
    refine s_t (x_q (e_move rfl) rfl ?_)
    refine s_t (x_q (e_move rfl) rfl ?_)
    refine s_t (x_q (e_nilP rfl) rfl ?_)
    refine s_t (x_q (e_load rfl (ld1 ag28 hout hcell)) rfl ?_)
    refine s_t (x_q (e_move rfl) rfl ?_)
    refine s_t (x_bs rfl (bs28 _ _) rfl ?_)
    refine s_t (x_app rfl rfl happ rfl ?_)
    refine s_t (x_q (e_nilP rfl) rfl ?_)
    refine s_t (x_store rfl rfl (st1v sz28 (ownV_cells _ _) (ownV_one _ _) hgo rfl (by rw [Nat.blt_eq]; simp [ev_len])) ?_)
    refine s_nil ?_
    have hbo := g6.inv.lob bo rfl
    have hle6 := g6.le
    have hbon : bo < n6 := g6.inv.lto rfl
    generalize hh : h7.set bo _ = h8 at *
    have hf8 : ∀ i, i < nx + 2 → h8.get i = h6.get i := fun i hi => by rw [← hh, Tr.get_set_ne _ _ (by omega), hfm7 i hi]
    have hfr8 : Fr h8 n7 := by rw [← hh]; exact (hfr7 g6.sg.fr).set (by omega) _
    clear hh
    refine ⟨⟨k3, some bo, E0 ++ [(some bi, ss ++ [⟨p.toArray⟩])], h8, n7⟩, ⟨by simp only; omega, hk7, ⟨?_, ?_, ?_, hinv7, ⟨Nat.le_trans g6.sg.le hle7, hfr8, fun i hi hir => ?_⟩, Nat.le_trans g6.le hle7⟩, ?_, fun q hq => ?_, ?_⟩, by simp only; omega, wk_tms (wk_cons rfl (wk_cons rfl (wk_cons rfl wk_nil))) sub_rfl (Nat.le_refl _)⟩
    · unfold Scan; rw [hf8 r (by omega)]; exact g6.sc
    · rw [hf8 nx (by omega)]; exact g6.res
    · rw [hf8 (nx + 1) (by omega), hbx]; simp
    · rw [hf8 i (by omega)]; exact g6.sg.frame i hi hir
    · simp only [List.length_append, List.length_singleton]; omega
    · rcases List.mem_append.1 hq with hq | hq
      · have := hps q (List.mem_append_left _ hq); simp only; omega
      · rw [List.mem_singleton.1 hq]; simp only [List.length_append, List.length_singleton]; omega
    · rw [hsp2, List.map_append, List.map_append]
      simp only [List.map_cons, List.map_nil]
      rw [addPart_snoc]
end Go.Proofs.YtkjkoejnicbieaaGreat.AM

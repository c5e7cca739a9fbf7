/-
  The message's functions, walked: 'Parse'.
-/
import Derived.Test.YtkjkoejnicbieaaGreatAmP9
namespace Go.Proofs.YtkjkoejnicbieaaGreat.AM
open Go Go.RowKit

theorem pPart_fit : ∀ (n : Nat) (l p r : List UInt8), l.length ≤ n → pPart l = some (p, r) → p.length + r.length ≤ l.length := by
  intro n
  induction n with
  | zero =>
    intro l p r hl h
    have : l = [] := List.eq_nil_of_length_eq_zero (by omega)
    subst this
    rw [pPart_nil] at h
    cases h; exact Nat.le_refl _
  | succ n ih =>
    intro l p r hl h
    cases l with
    | nil => rw [pPart_nil] at h; cases h; exact Nat.le_refl _
    | cons c t =>
      rw [pPart_cons] at h
      simp only [List.length_cons] at hl ⊢
      split at h
      · cases h; simp
      · split at h
        · split at h
          · cases h
          · rename_i d t'
            simp only [List.length_cons] at hl ⊢
            split at h
            · cases hp : pPart t' with
              | none => rw [hp] at h; cases h
              | some x => rw [hp] at h; cases h; have := ih t' x.1 x.2 (by omega) hp; simp only [List.length_cons]; omega
            · cases h
        · split at h
          · cases hp : pPart t with
            | none => rw [hp] at h; cases h
            | some x => rw [hp] at h; cases h; have := ih t x.1 x.2 (by omega) hp; simp only [List.length_cons]; omega
          · cases h

/-- No part is longer than so much. -/
def Bd (A : Nat) (acc : List (List ByteArray)) : Prop := acc.length ≤ A ∧ ∀ y ∈ acc, y.length ≤ A ∧ ∀ z ∈ y, z.size ≤ A

theorem Bd.add {A B : Nat} {acc : List (List ByteArray)} {p : List UInt8} (h : Bd A acc) (hne : acc ≠ []) (hA : A + 1 ≤ B) (hp : p.length ≤ B) : Bd B (addPart acc p) := by
  rcases List.eq_nil_or_concat acc with e | ⟨a0, ss, e⟩
  · exact absurd e hne
  · rw [List.concat_eq_append] at e
    subst e
    rw [addPart_snoc]
    obtain ⟨h1, h2⟩ := h
    rw [List.length_append, List.length_singleton] at h1
    refine ⟨by rw [List.length_append, List.length_singleton]; omega, fun y hy => ?_⟩
    rcases List.mem_append.1 hy with hy | hy
    · obtain ⟨g1, g2⟩ := h2 y (List.mem_append_left _ hy)
      exact ⟨by omega, fun z hz => by have := g2 z hz; omega⟩
    · rw [List.mem_singleton.1 hy]
      obtain ⟨g1, g2⟩ := h2 ss (List.mem_append_right _ (List.mem_singleton.2 rfl))
      refine ⟨by rw [List.length_append, List.length_singleton]; omega, fun z hz => ?_⟩
      rcases List.mem_append.1 hz with hz | hz
      · have := g2 z hz; omega
      · rw [List.mem_singleton.1 hz]; exact hp

theorem pEls_fit : ∀ (n : Nat) (l r : List UInt8) (acc es : List (List ByteArray)) (A : Nat), l.length ≤ n → pEls acc l = some (es, r) → Bd A acc → r.length < l.length ∧ Bd (A + 2 * l.length) es := by
  intro n
  induction n with
  | zero =>
    intro l r acc es A hl h hb
    have : l = [] := List.eq_nil_of_length_eq_zero (by omega)
    subst this
    rw [pEls_nil] at h; cases h
  | succ n ih =>
    intro l r acc es A hl h hb
    cases l with
    | nil => rw [pEls_nil] at h; cases h
    | cons c t =>
      simp only [List.length_cons] at hl ⊢
      have next : ∀ acc2 A2, acc2 ≠ [] → Bd A2 acc2 → A2 ≤ A + 1 → pNext acc2 t = some (es, r) → r.length < t.length + 1 ∧ Bd (A + 2 * (t.length + 1)) es := by
        intro acc2 A2 hne hb2 hA2 h
        unfold pNext at h
        cases hp : pPart t with
        | none => rw [hp] at h; cases h
        | some x =>
          obtain ⟨p, t'⟩ := x
          rw [hp] at h
          simp only at h
          have hf := pPart_fit _ _ _ _ (Nat.le_refl _) hp
          have hb3 : Bd (A2 + 1 + p.length) (addPart acc2 p) := hb2.add hne (by omega) (by omega)
          obtain ⟨g1, g2⟩ := ih t' r _ es (A2 + 1 + p.length) (by omega) h hb3
          refine ⟨by omega, ?_⟩
          obtain ⟨k1, k2⟩ := g2
          have hle : A2 + 1 + p.length + 2 * t'.length ≤ A + 2 * (t.length + 1) := by omega
          exact ⟨Nat.le_trans k1 hle, fun y hy => ⟨Nat.le_trans (k2 y hy).1 hle, fun z hz => Nat.le_trans ((k2 y hy).2 z hz) hle⟩⟩
      by_cases h39 : c = 39
      · subst h39
        rw [pEls_end] at h
        cases h
        refine ⟨by omega, ?_⟩
        obtain ⟨k1, k2⟩ := hb
        exact ⟨by omega, fun y hy => ⟨by have := (k2 y hy).1; omega, fun z hz => by have := (k2 y hy).2 z hz; omega⟩⟩
      by_cases h43 : c = 43
      · subst h43
        rw [pEls_plus] at h
        refine next _ (A + 1) (by simp) ?_ (Nat.le_refl _) h
        obtain ⟨k1, k2⟩ := hb
        refine ⟨by rw [List.length_append, List.length_singleton]; omega, fun y hy => ?_⟩
        rcases List.mem_append.1 hy with hy | hy
        · exact ⟨by have := (k2 y hy).1; omega, fun z hz => by have := (k2 y hy).2 z hz; omega⟩
        · rw [List.mem_singleton.1 hy]; exact ⟨Nat.zero_le _, fun z hz => by cases hz⟩
      by_cases h58 : c = 58
      · subst h58
        rw [pEls_colon] at h
        split at h
        · cases h
        · rename_i hne
          exact next _ A hne hb (by omega) h
      · rw [pEls_other _ _ h39 h43 h58] at h; cases h

theorem dropWhile_len (p : UInt8 → Bool) (l : List UInt8) : (l.dropWhile p).length ≤ l.length := by
  induction l with
  | nil => exact Nat.le_refl _
  | cons c t ih => rw [List.dropWhile_cons]; split <;> simp only [List.length_cons] <;> omega

theorem pSeg_fit {l r : List UInt8} {x : Seg} (h : pSeg l = some (x, r)) : r.length < l.length ∧ Bd (2 * l.length) x.els := by
  unfold pSeg at h
  split at h
  · cases hp : pEls [] (l.dropWhile isUp) with
    | none => rw [hp] at h; cases h
    | some y =>
      rw [hp] at h
      cases h
      have hd := dropWhile_len isUp l
      obtain ⟨g1, k1, k2⟩ := pEls_fit _ _ y.2 _ y.1 0 (Nat.le_refl _) hp ⟨Nat.le_refl _, fun y hy => by cases hy⟩
      have hle : 0 + 2 * (l.dropWhile isUp).length ≤ 2 * l.length := by omega
      exact ⟨by show y.2.length < l.length; omega, Nat.le_trans k1 hle, fun y hy => ⟨Nat.le_trans (k2 y hy).1 hle, fun z hz => Nat.le_trans ((k2 y hy).2 z hz) hle⟩⟩
  · cases h

def isLF (c : UInt8) : Bool := c == 10

/-- A message, where it ends, and the error. -/
def pMsg (acc : List Seg) (l : List UInt8) : List Seg × Nat × Nat :=
  match hl : l.dropWhile isLF with
  | [] => (acc, 0, 0)
  | c :: t => match h : pSeg (c :: t) with
    | none => ([], acc.length, 5)
    | some (x, r) => if fitEls x.els = false ∨ acc.length = 60 then ([], acc.length, 3) else pMsg (acc ++ [x]) r
termination_by l.length
decreasing_by
  have h1 := (pSeg_fit h).1
  have h2 := dropWhile_len isLF l
  rw [hl] at h2
  omega

/-- Behind line feeds. -/
def pMsg2 (acc : List Seg) (l : List UInt8) : List Seg × Nat × Nat :=
  match l with
  | [] => (acc, 0, 0)
  | c :: t => match pSeg (c :: t) with
    | none => ([], acc.length, 5)
    | some (x, r) => if fitEls x.els = false ∨ acc.length = 60 then ([], acc.length, 3) else pMsg (acc ++ [x]) r

theorem pMsg_eq (acc : List Seg) (l : List UInt8) : pMsg acc l = pMsg2 acc (l.dropWhile isLF) := by
  rw [pMsg]
  unfold pMsg2
  split
  · rename_i h; rw [h]
  · rename_i c t h
    rw [h]
    simp only
    split <;> (rename_i h2; rw [h2])

def pParse (text : ByteArray) : List Seg × Nat × Nat := if 20000 < text.size then ([], 0, 3) else pMsg [] text.data.toList

theorem bd67 (t : ByteArray) : buildA Tryz.prog 67 [(0, .string t)] = some (.agg #[.string t, .int .i64 0]) := by kernel_rfl
theorem bs22 (nx : Nat) (t : ByteArray) (u : Value) (hu : u.cells = #[u]) : buildSliceA Tryz.prog nx 22 1 [(0, .agg #[.string t, u])] = some (.slice (some ⟨nx, 0, none⟩) 1 1, .cells [.string t, u] 31 2 0 false true) := by
  kernel_rfl

/-- A message while it is read. -/
abbrev ML := List (Seg × Value)
def mvL (M : ML) : List Value := M.flatMap fun p => [.string p.1.tag, p.2]
theorem mvL_len (M : ML) : (mvL M).length = M.length * 2 := by
  induction M with
  | nil => rfl
  | cons p M ih => simp only [mvL, List.flatMap_cons, List.length_append, List.length_cons, List.length_nil] at *; omega
theorem mvL_app (M N : ML) : mvL (M ++ N) = mvL M ++ mvL N := by simp [mvL]

/-- Memory without the row of segments, and without the scanner. -/
def rest (hp : Tr AObj) (ob : Option Nat) (r : Nat) : Tr AObj := (unO hp ob).set r none
theorem rest_get {hp : Tr AObj} {ob : Option Nat} {r i : Nat} {o : AObj} (h : (rest hp ob r).get i = some o) : i ≠ r ∧ ob ≠ some i ∧ hp.get i = some o := by
  unfold rest at h
  rw [Tr.get_set] at h
  split at h
  · cases h
  · rename_i hir
    refine ⟨hir, ?_⟩
    cases ob with
    | none => exact ⟨fun e => (by cases e), h⟩
    | some b =>
      simp only [unO, Tr.get_set] at h
      split at h
      · cases h
      · rename_i hib; exact ⟨fun e => hib (by cases e; rfl), h⟩
theorem rest_mk {hp : Tr AObj} {ob : Option Nat} {r i : Nat} {o : AObj} (h1 : i ≠ r) (h2 : ob ≠ some i) (h3 : hp.get i = some o) : (rest hp ob r).get i = some o := by
  unfold rest
  rw [Tr.get_set_ne _ _ h1]
  cases ob with
  | none => exact h3
  | some b => exact (Tr.get_set_ne _ _ (fun e => h2 (by rw [e]))).trans h3

structure MInv (hp0 : Tr AObj) (nx0 : Nat) (s : ByteArray) (k : Nat) (ob : Option Nat) (M : ML) (hp : Tr AObj) (nx : Nat) : Prop where
  sc : Scan hp nx0 s k
  own : Own hp nx 31 2 ob M.length (mvL M)
  rd : ∀ p ∈ M, RdEls (rest hp ob nx0) p.2 p.1.els
  ne : ob ≠ some nx0
  fr : Fr hp nx
  le : nx0 < nx
  low : ∀ b, ob = some b → nx0 ≤ b
  frame : ∀ i, i < nx0 → hp.get i = hp0.get i

theorem MInv.rdMsg {hp0 hp : Tr AObj} {nx0 nx k : Nat} {s : ByteArray} {ob : Option Nat} {M : ML} (g : MInv hp0 nx0 s k ob M hp nx) : RdMsg hp (ownV ob M.length) (M.map (·.1)) := by
  have hl : (M.map (·.1)).length = M.length := by simp
  obtain ⟨_, h2⟩ := g.own
  cases ob with
  | none => exact ⟨none, 0, by rw [hl, h2]; rfl, fun hn => by rw [hl] at hn; simp only at h2; omega⟩
  | some b =>
    refine ⟨some ⟨b, 0, none⟩, OPEN, by rw [hl]; rfl, fun hn => ⟨b, 0, mvL M, 31, 0, false, true, rfl, h2.2.2, fun i hi => ?_⟩⟩
    rw [hl] at hi
    have hg := getD_some (d := ((default, undef) : Seg × Value)) hi
    have hm := getD_mem (d := ((default, undef) : Seg × Value)) hi
    have e : (M.map (·.1)).getD i default = (M.getD i (default, undef)).1 := by
      rw [List.getD_eq_getElem?_getD, List.getElem?_map, hg]; rfl
    have hc : ∀ (M : ML) (i : Nat) (p : Seg × Value), M[i]? = some p → (mvL M)[i * 2]? = some (.string p.1.tag) ∧ (mvL M)[i * 2 + 1]? = some p.2 := by
      intro M
      induction M with
      | nil => intro i p h; cases h
      | cons q M ih =>
        intro i p h
        cases i with
        | zero => cases h; exact ⟨rfl, rfl⟩
        | succ i =>
          have := ih i p (by simpa using h)
          have e2 : mvL (q :: M) = .string q.1.tag :: q.2 :: mvL M := rfl
          rw [e2, show (i + 1) * 2 = i * 2 + 1 + 1 from by omega]
          exact this
    rw [e, Nat.zero_add]
    obtain ⟨c1, c2⟩ := hc M i _ hg
    exact ⟨c1, _, c2, (g.rd _ hm).mono fun i o h => (rest_get h).2.2⟩

theorem MInv.adv {hp0 hp hp' : Tr AObj} {nx0 nx nx' k k' : Nat} {s : ByteArray} {ob : Option Nat} {M : ML} (g : MInv hp0 nx0 s k ob M hp nx) (hf : ∀ i, i < nx → i ≠ nx0 → hp'.get i = hp.get i) (hsc : Scan hp' nx0 s k') (hfr : Fr hp' nx') (hn : nx ≤ nx') : MInv hp0 nx0 s k' ob M hp' nx' := by
  have hlo : ∀ b, ob = some b → b < nx := fun b e => by have := g.own.2; subst e; exact this.2.1
  refine ⟨hsc, g.own.keep (fun b e => hf b (hlo b e) (fun e2 => g.ne (by rw [e, e2]))) hn, fun p hp => (g.rd p hp).mono fun i o h => ?_, g.ne, hfr, Nat.lt_of_lt_of_le g.le hn, g.low, fun i hi => ?_⟩
  · obtain ⟨h1, h2, h3⟩ := rest_get h
    exact rest_mk h1 h2 (by rw [hf i (g.fr i o h3) h1]; exact h3)
  · rw [hf i (Nat.lt_trans hi g.le) (by omega), g.frame i hi]

structure MS where
  k : Nat
  ob : Option Nat
  M : ML
  hp : Tr AObj
  nx : Nat

def ParseV (s : ByteArray) (hp' : Tr AObj) (v : Value) : Prop :=
  ∃ mv, v = .tuple #[mv, .int .i64 ((pParse s).2.1 : Int), .int .i64 ((pParse s).2.2 : Int)] ∧ RdMsg hp' mv (pParse s).1

theorem rdMsg_nil (hp : Tr AObj) : RdMsg hp (.slice none 0 0) [] := ⟨none, 0, rfl, fun h => absurd h (Nat.lt_irrefl 0)⟩

theorem segV_form {s : ByteArray} {k nx k' : Nat} {hp' : Tr AObj} {v : Value} (h : SegV s k nx hp' v k') : ∃ t u ok, v = .tuple #[.agg #[.string t, u], .bool ok] ∧ u.cells = #[u] ∧ u.oneCell' = true ∧
    ((ok = false ∧ pSeg (s.data.toList.drop k) = none) ∨ (ok = true ∧ ∃ els, pSeg (s.data.toList.drop k) = some (⟨t, els⟩, s.data.toList.drop k') ∧ RdEls (fromA nx hp') u els ∧ k < k')) := by
  unfold SegV at h
  split at h
  · rename_i x r hp
    obtain ⟨tag, els⟩ := x
    obtain ⟨u, h1, h2, h3, h4, rfl, h5⟩ := h
    exact ⟨tag, u, true, h1, h2, h3, .inr ⟨rfl, els, hp, h4, h5⟩⟩
  · rename_i hp
    obtain ⟨t, u, h1, h2, h3⟩ := h
    exact ⟨t, u, false, h1, h2, h3, .inl ⟨rfl, hp⟩⟩

theorem stSegU {hp : Tr AObj} {b : Nat} {x y : Value} {t : ByteArray} {u : Value} (hu : u.oneCell' = true) (h : hp.get b = some (.cells [x, y] 31 2 0 false true)) : storeA Tryz.prog hp 31 (.pointer (some ⟨b, 0, none⟩)) (.agg #[.string t, u]) = some (hp.set b (some (.cells [.string t, u] 31 2 0 false true))) := by
  refine st1 sz31 rfl h rfl rfl ?_ rfl
  show (bif true then (bif u.oneCell' then true else false) else false) = true
  rw [hu]; rfl
theorem lenOwn {hp : Tr AObj} {t e : Nat} {ob : Option Nat} {n : Nat} (h : Tryz.prog.underlying t = some (.slice e)) (hn : ob = none → n = 0) : lenA Tryz.prog hp t (ownV ob n) = some (.int .i64 (n : Int)) := by
  cases ob with
  | none => rw [hn rfl]; exact lenSl h
  | some b => exact lenSl h

set_option maxHeartbeats 4000000 in
theorem parse_c {hp : Tr AObj} {nx : Nat} {s : ByteArray} (hf : Fr hp nx) :
    ACall Tryz.prog 0 11 [.string s] hp nx (fun v hp' nx' => ParseV s hp' v ∧ Fr hp' nx' ∧ nx ≤ nx' ∧ ∀ i, i < nx → hp'.get i = hp.get i) := by
  refine acall_fn named7 Tryz.func11 rfl rfl ?_
  show AW _ _ _ _ ⟨tms [(0, .string s)], hp, nx, []⟩ _
  by_cases hbig : 20000 < s.size
  · refine aw_seq (aw_reg ?_)
    refine s_t (x_q (e_assign rfl) rfl ?_)
    refine s_t (x_q (e_assign rfl) rfl ?_)
    refine s_t (x_q (e_assign rfl) rfl ?_)
    refine s_nil ?_
    refine aw_seq (aw_seq (aw_reg ?_))
    refine s_t (x_q (e_move rfl) rfl ?_)
    refine s_t (x_q (e_len rfl (lenStr un9)) rfl ?_)
    refine s_t (x_q (e_bin rfl rfl (dT (by omega))) rfl ?_)
    refine s_nil ?_
    refine (aw_ifT rfl ?_)
    refine aw_seq (aw_reg ?_)
    refine s_t (x_q (e_assign rfl) rfl ?_)
    refine s_t (x_q (e_assign rfl) rfl ?_)
    refine s_t (x_q (e_assign rfl) rfl ?_)
    refine s_nil ?_
    refine aw_ret (fn_ret rfl ⟨⟨.slice none 0 0, ?_, ?_⟩, hf, Nat.le_refl _, fun _ _ => rfl⟩)
    · unfold pParse; rw [if_pos hbig]; rfl
    · unfold pParse; rw [if_pos hbig]; exact rdMsg_nil _
  have hpe : pParse s = pMsg [] s.data.toList := by unfold pParse; rw [if_neg hbig]
  refine aw_seq (aw_reg ?_)
  refine s_t (x_q (e_assign rfl) rfl ?_)
  refine s_t (x_q (e_assign rfl) rfl ?_)
  refine s_t (x_q (e_assign rfl) rfl ?_)
  refine s_nil ?_
  refine aw_seq (aw_seq (aw_reg ?_))
  refine s_t (x_q (e_move rfl) rfl ?_)
  refine s_t (x_q (e_len rfl (lenStr un9)) rfl ?_)
  refine s_t (x_q (e_bin rfl rfl (dF (by omega))) rfl ?_)
  refine s_nil ?_
  refine (aw_ifF rfl (aw_skip ?_))
  refine aw_seq (aw_reg ?_)
  refine s_t (x_q (e_move rfl) rfl ?_)
  refine s_t (x_q (e_build rfl (bd67 _)) rfl ?_)
  refine s_t (x_box rfl sz67 rfl ?_)
  refine s_t (x_q (e_assign rfl) rfl ?_)
  refine s_nil ?_
  refine aw_seq (aw_reg ?_)
  refine s_t (x_q (e_assign rfl) rfl ?_)
  refine s_nil ?_
  generalize hh : hp.set nx _ = hp1
  have hsc0 : Scan hp1 nx s 0 := by rw [← hh]; exact Tr.get_set_same _ _ _
  have hf1 : ∀ i, i < nx → hp1.get i = hp.get i := fun i hi => by rw [← hh]; exact Tr.get_set_ne _ _ (by omega)
  have hfr1 : Fr hp1 (nx + 1) := by rw [← hh]; exact hf.new _
  clear hh
  refine aw_block (aw_loop (α := MS) (fun x => ⟨tms [(5, .pointer (some ⟨nx, 0, none⟩)), (6, ownV x.ob x.M.length)], x.hp, x.nx, []⟩) (fun x => x.k ≤ s.size ∧ MInv hp nx s x.k x.ob x.M x.hp x.nx ∧ x.M.length ≤ 60 ∧ pMsg [] s.data.toList = pMsg (x.M.map (·.1)) (s.data.toList.drop x.k)) (fun x => s.size - x.k) ⟨0, none, [], hp1, nx + 1⟩ ⟨Nat.zero_le _, ⟨hsc0, Own.nil _ _ _ _, fun p hp => (by cases hp), (fun e => by cases e), hfr1, Nat.lt_succ_self _, (fun b e => by cases e), hf1⟩, Nat.zero_le _, rfl⟩ (wk_tms (wk_cons rfl (wk_cons rfl wk_nil)) sub_rfl (Nat.le_refl _)) ?_)
  rintro ⟨k, ob, M, h1, n1⟩ ⟨hk, g, hM, hsp⟩
  simp only at hk g hM hsp
  dsimp only
  rw [pMsg_eq (M.map (·.1))] at hsp
  refine aw_block ?_
  refine aw_seq (aw_block (aw_loop (α := TS) (fun x => ⟨tms [(5, .pointer (some ⟨nx, 0, none⟩)), (6, ownV ob M.length)], x.hp, n1, []⟩) (fun x => k ≤ x.k ∧ x.k ≤ s.size ∧ MInv hp nx s x.k ob M x.hp n1 ∧ pMsg [] s.data.toList = pMsg2 (M.map (·.1)) ((s.data.toList.drop x.k).dropWhile isLF)) (fun x => s.size - x.k) ⟨k, h1⟩ ⟨Nat.le_refl _, hk, g, hsp⟩ (wk_tms (wk_cons rfl (wk_cons rfl wk_nil)) sub_rfl (Nat.le_refl _)) ?_))
  rintro ⟨k2, h2⟩ ⟨hk2, hk3, g2, hsp2⟩
  simp only at hk2 hk3 g2 hsp2
  dsimp only
  have hrn : nx < n1 := g2.le
  by_cases hlt : k2 < s.size
  case neg =>
    rw [drop_end (k := k2) (by omega)] at hsp2
    refine aw_seq (aw_seq (aw_any mixed7 [(0, true), (1, false), (2, true), (3, true), (4, true), (5, true), (7, true), (8, true), (9, true), (6, true), (10, true), (11, true), (12, true), (13, true)] (by kernel_rfl) (by kernel_rfl) (by kernel_rfl) ?_))
    refine a_q rfl (e_move rfl) rfl ?_
    refine a_r rfl (x_pure rfl rfl rfl (more_c g2.sc (decide_eq_false (by omega))) ?_)
    refine a_q rfl (e_move rfl) rfl ?_
    refine a_qn rfl rfl rfl rfl ?_
    refine a_qn rfl rfl rfl rfl ?_
    refine a_qn rfl rfl rfl rfl ?_
    refine a_qn rfl rfl rfl rfl ?_
    refine a_qn rfl rfl rfl rfl ?_
    refine a_qn rfl rfl rfl rfl ?_
    refine a_qn rfl rfl rfl rfl ?_
    refine a_qn rfl rfl rfl rfl ?_
    refine a_qn rfl rfl rfl rfl ?_
    refine a_qn rfl rfl rfl rfl ?_
    refine a_q rfl (e_pickF rfl rfl rfl) rfl ?_
    refine (aw_ifF rfl (aw_exit ?_))
    refine aw_seq (aw_seq (aw_reg ?_))
    refine s_t (x_q (e_move rfl) rfl ?_)
    refine s_t (x_pure rfl rfl rfl (more_c g2.sc (decide_eq_false (by omega))) ?_)
    refine s_t (x_q (e_un rfl rfl) rfl ?_)
    refine s_nil ?_
    refine (aw_ifT rfl ?_)
    refine aw_seq (aw_reg ?_)
    refine s_t (x_q (e_move rfl) rfl ?_)
    refine s_t (x_q (e_assign rfl) rfl ?_)
    refine s_t (x_q (e_assign rfl) rfl ?_)
    refine s_t (x_q (e_assign rfl) rfl ?_)
    refine s_nil ?_
    have hsp3 : pParse s = (M.map (·.1), 0, 0) := by rw [hpe, hsp2]; rfl
    refine aw_ret (fn_ret rfl ⟨⟨ownV ob M.length, ?_, ?_⟩, g2.fr, by omega, g2.frame⟩)
    · rw [hsp3]; rfl
    · rw [hsp3]; exact g2.rdMsg
  have hget := at_get hlt
  have hdr := drop_at hlt
  rw [hdr] at hsp2
  have hdl : (s.data.toList.drop k2).length ≤ 20000 := by rw [List.length_drop, size_list]; omega
  generalize s.data.toList.getD k2 0 = c at *
  by_cases h10 : c = 10
  · subst h10
    refine aw_seq (aw_seq (aw_any mixed7 [(0, true), (1, false), (2, true), (3, true), (4, true), (5, true), (7, true), (8, true), (9, true), (6, true), (10, true), (11, true), (12, true), (13, true)] (by kernel_rfl) (by kernel_rfl) (by kernel_rfl) ?_))
    refine a_q rfl (e_move rfl) rfl ?_
    refine a_r rfl (x_pure rfl rfl rfl (more_c g2.sc (decide_eq_true (by omega))) ?_)
    refine a_q rfl (e_move rfl) rfl ?_
    refine a_qg rfl rfl (e_move rfl) rfl ?_
    refine a_qg rfl rfl (e_nilP rfl) rfl ?_
    refine a_qg rfl rfl (e_fa rfl (fa67_0 _ _)) rfl ?_
    refine a_qg rfl rfl (e_move rfl) rfl ?_
    refine a_qg rfl rfl (e_nilP rfl) rfl ?_
    refine a_qg rfl rfl (e_fa rfl (fa67_1 _ _)) rfl ?_
    refine a_qg rfl rfl (e_load rfl (ld1 ag9 g2.sc rfl)) rfl ?_
    refine a_qg rfl rfl (e_load rfl (ld1 ag3 g2.sc rfl)) rfl ?_
    refine a_qg rfl rfl (e_ix rfl rfl (ixStr un9 hget)) rfl ?_
    refine a_qg rfl rfl (e_bin rfl rfl rfl) rfl ?_
    refine a_q rfl (e_pickT rfl rfl rfl) rfl ?_
    refine (aw_ifT rfl (aw_skip ?_))
    refine aw_block ?_
    refine aw_reg ?_
    refine s_t (x_q (e_move rfl) rfl ?_)
    refine s_t (x_q (e_nilP rfl) rfl ?_)
    refine s_t (x_q (e_fa rfl (fa67_1 _ _)) rfl ?_)
    refine s_t (x_q (e_load rfl (ld1 ag3 g2.sc rfl)) rfl ?_)
    refine s_t (x_q (e_bin rfl rfl (b_addN _ 1 (by omega))) rfl ?_)
    refine s_t (x_q (e_nilP rfl) rfl ?_)
    refine s_t (x_q (e_fa rfl (fa67_1 _ _)) rfl ?_)
    refine s_t (x_store rfl rfl (st1 sz3 rfl g2.sc rfl rfl rfl rfl) ?_)
    refine s_nil ?_
    have he : putL [Value.string s, .int .i64 (k2 : Int)] (0 + 1) (Value.int .i64 ((k2 + 1 : Nat) : Int)).cells.toList = [.string s, .int .i64 ((k2 + 1 : Nat) : Int)] := rfl
    rw [he]
    have g3 : MInv hp nx s (k2 + 1) ob M (h2.set nx (some (.cells [.string s, .int .i64 ((k2 + 1 : Nat) : Int)] 67 2 0 false true))) n1 := g2.adv (fun i _ hi => Tr.get_set_ne _ _ hi) (Tr.get_set_same _ _ _) (g2.fr.set hrn _) (Nat.le_refl _)
    exact ⟨⟨k2 + 1, _⟩, ⟨by simp only; omega, by simp only; omega, g3, by rw [hsp2, List.dropWhile_cons]; rfl⟩, by simp only; omega, wk_tms (wk_cons rfl (wk_cons rfl wk_nil)) sub_rfl (Nat.le_refl _)⟩
  have hb10 := bIs (show ((c.toNat : Int) == 10) = false by rw [beq_eq_false_iff_ne]; exact byte_ne (n := 10) (by decide) h10)
  have hlf : isLF c = false := by unfold isLF; rw [beq_eq_false_iff_ne]; exact h10
  rw [List.dropWhile_cons, hlf, if_neg Bool.false_ne_true, ← hdr] at hsp2
  have hsp3 : pMsg2 (M.map (·.1)) (s.data.toList.drop k2) = match pSeg (s.data.toList.drop k2) with
    | none => ([], M.length, 5)
    | some (x, r) => if fitEls x.els = false ∨ M.length = 60 then ([], M.length, 3) else pMsg (M.map (·.1) ++ [x]) r := by
    rw [hdr]; unfold pMsg2; simp only [List.length_map]
  rw [hsp3] at hsp2
  clear hsp3
  refine aw_seq (aw_seq (aw_any mixed7 [(0, true), (1, false), (2, true), (3, true), (4, true), (5, true), (7, true), (8, true), (9, true), (6, true), (10, true), (11, true), (12, true), (13, true)] (by kernel_rfl) (by kernel_rfl) (by kernel_rfl) ?_))
  refine a_q rfl (e_move rfl) rfl ?_
  refine a_r rfl (x_pure rfl rfl rfl (more_c g2.sc (decide_eq_true (by omega))) ?_)
  refine a_q rfl (e_move rfl) rfl ?_
  refine a_qg rfl rfl (e_move rfl) rfl ?_
  refine a_qg rfl rfl (e_nilP rfl) rfl ?_
  refine a_qg rfl rfl (e_fa rfl (fa67_0 _ _)) rfl ?_
  refine a_qg rfl rfl (e_move rfl) rfl ?_
  refine a_qg rfl rfl (e_nilP rfl) rfl ?_
  refine a_qg rfl rfl (e_fa rfl (fa67_1 _ _)) rfl ?_
  refine a_qg rfl rfl (e_load rfl (ld1 ag9 g2.sc rfl)) rfl ?_
  refine a_qg rfl rfl (e_load rfl (ld1 ag3 g2.sc rfl)) rfl ?_
  refine a_qg rfl rfl (e_ix rfl rfl (ixStr un9 hget)) rfl ?_
  refine a_qg rfl rfl (e_bin rfl rfl hb10) rfl ?_
  refine a_q rfl (e_pickT rfl rfl rfl) rfl ?_
  refine (aw_ifF rfl (aw_exit ?_))
  refine aw_seq (aw_seq (aw_reg ?_))
  refine s_t (x_q (e_move rfl) rfl ?_)
  refine s_t (x_pure rfl rfl rfl (more_c g2.sc (decide_eq_true (by omega))) ?_)
  refine s_t (x_q (e_un rfl rfl) rfl ?_)
  refine s_nil ?_
  refine (aw_ifF rfl (aw_skip ?_))
  refine aw_seq (aw_reg ?_)
  refine s_t (x_q (e_move rfl) rfl ?_)
  refine s_t (x_call rfl rfl rfl (segment_c g2.sc hk3 (by omega) g2.fr) ?_)
  rintro v h3 n3 ⟨k3, hk4, hk5, hsc3, hsg3, hsv⟩
  have g3 := g2.adv hsg3.frame hsc3 hsg3.fr hsg3.le
  obtain ⟨t, u, ok, rfl, huc, huo, hcase⟩ := segV_form hsv
  refine s_t (x_q (e_move rfl) rfl ?_)
  refine s_t (x_q (e_ext rfl rfl) rfl ?_)
  refine s_t (x_q (e_ext rfl rfl) rfl ?_)
  refine s_t (x_alloc ze31 sz31 rfl rfl ?_)
  refine s_t (x_store rfl rfl (stSegU huo (Tr.get_set_same _ _ _)) ?_)
  refine s_t (x_q (e_assign rfl) rfl ?_)
  refine s_nil ?_
  generalize hh : Tr.set (h3.set n3 _) n3 _ = h4
  have hx4 : h4.get n3 = some (.cells [.string t, u] 31 2 0 false true) := by rw [← hh]; exact Tr.get_set_same _ _ _
  have hf4 : ∀ i, i ≠ n3 → h4.get i = h3.get i := fun i hi => by rw [← hh, Tr.get_set_ne _ _ hi, Tr.get_set_ne _ _ hi]
  have hfr4 : Fr h4 (n3 + 1) := by rw [← hh]; exact (g3.fr.new _).set (Nat.lt_succ_self _) _
  clear hh
  have hle3 := hsg3.le
  have g4 : MInv hp nx s k3 ob M h4 (n3 + 1) := g3.adv (fun i hi _ => hf4 i (by omega)) (by unfold Scan; rw [hf4 nx (by omega)]; exact g3.sc) hfr4 (Nat.le_succ _)
  have hnone : ob = none → M.length = 0 := fun e => by have := g4.own.2; subst e; exact this
  rcases hcase with ⟨rfl, hps⟩ | ⟨rfl, els, hps, hrd, hk6⟩
  · rw [hps] at hsp2
    refine aw_seq (aw_block ?_)
    refine aw_seq (aw_reg ?_)
    refine s_t (x_q (e_move rfl) rfl ?_)
    refine s_t (x_q (e_un rfl rfl) rfl ?_)
    refine s_t (x_q (e_assign rfl) rfl ?_)
    refine s_nil ?_
    refine (aw_ifT rfl ?_)
    refine aw_seq (aw_reg ?_)
    refine s_t (x_q (e_move rfl) rfl ?_)
    refine s_t (x_q (e_len rfl (lenOwn un22 hnone)) rfl ?_)
    refine s_t (x_q (e_assign rfl) rfl ?_)
    refine s_t (x_q (e_assign rfl) rfl ?_)
    refine s_t (x_q (e_assign rfl) rfl ?_)
    refine s_nil ?_
    have hsp3 : pParse s = ([], M.length, 5) := by rw [hpe, hsp2]
    refine aw_ret (fn_ret rfl ⟨⟨.slice none 0 0, ?_, ?_⟩, g4.fr, by omega, g4.frame⟩)
    · rw [hsp3]; rfl
    · rw [hsp3]; exact rdMsg_nil _
  rw [hps] at hsp2
  simp only at hsp2
  have hfitE : FitsEls els := by
    obtain ⟨_, k1, k2'⟩ := pSeg_fit hps
    simp only at k1 k2'
    unfold FitsEls BIG
    exact ⟨by omega, fun y hy => ⟨by have := (k2' y hy).1; omega, fun z hz => by have := (k2' y hy).2 z hz; omega⟩⟩
  have hrd4 : RdEls h4 u els := hrd.mono fun i o h => by
    obtain ⟨a1, a2⟩ := fromA_some h
    rw [hf4 i (by have := g3.fr i o a2; omega)]; exact a2
  have hld : ldVar Tryz.prog h4 31 n3 0 = some (.agg #[.string t, u]) := ldN ag31 sz31 hx4 rfl rfl
  have lim : (fitEls els = false ∨ M.length = 60) → pParse s = ([], M.length, 3) := fun h => by rw [hpe, hsp2, if_pos h]
  refine aw_seq (aw_block ?_)
  refine aw_seq (aw_reg ?_)
  refine s_t (x_q (e_move rfl) rfl ?_)
  refine s_t (x_q (e_un rfl rfl) rfl ?_)
  refine s_t (x_q (e_assign rfl) rfl ?_)
  refine s_nil ?_
  refine (aw_ifF rfl ?_)
  cases hfe : fitEls els with
  | false =>
    refine aw_seq (aw_reg ?_)
    refine s_t (x_q (e_load rfl (hld)) rfl ?_)
    refine s_t (x_pure rfl rfl rfl (fits_c hrd4 hfitE g4.fr hfe) ?_)
    refine s_t (x_q (e_un rfl rfl) rfl ?_)
    refine s_t (x_q (e_move rfl) rfl ?_)
    refine s_n rfl rfl ?_
    refine s_n rfl rfl ?_
    refine s_n rfl rfl ?_
    refine s_t (x_q (e_pickT rfl rfl rfl) rfl ?_)
    refine s_t (x_q (e_assign rfl) rfl ?_)
    refine s_nil ?_
    refine (aw_ifT rfl ?_)
    refine aw_seq (aw_reg ?_)
    refine s_t (x_q (e_move rfl) rfl ?_)
    refine s_t (x_q (e_len rfl (lenOwn un22 hnone)) rfl ?_)
    refine s_t (x_q (e_assign rfl) rfl ?_)
    refine s_t (x_q (e_assign rfl) rfl ?_)
    refine s_t (x_q (e_assign rfl) rfl ?_)
    refine s_nil ?_
    refine aw_ret (fn_ret rfl ⟨⟨.slice none 0 0, ?_, ?_⟩, g4.fr, by omega, g4.frame⟩)
    · rw [lim (.inl hfe)]; rfl
    · rw [lim (.inl hfe)]; exact rdMsg_nil _
  | true =>
  by_cases h60 : M.length = 60
  · refine aw_seq (aw_reg ?_)
    refine s_t (x_q (e_load rfl (hld)) rfl ?_)
    refine s_t (x_pure rfl rfl rfl (fits_c hrd4 hfitE g4.fr hfe) ?_)
    refine s_t (x_q (e_un rfl rfl) rfl ?_)
    refine s_t (x_q (e_move rfl) rfl ?_)
    refine s_g rfl (x_q (e_move rfl) rfl ?_)
    refine s_g rfl (x_q (e_len rfl (lenOwn un22 hnone)) rfl ?_)
    refine s_g rfl (x_q (e_bin rfl rfl (eT (by omega))) rfl ?_)
    refine s_t (x_q (e_pickF rfl rfl rfl) rfl ?_)
    refine s_t (x_q (e_assign rfl) rfl ?_)
    refine s_nil ?_
    refine (aw_ifT rfl ?_)
    refine aw_seq (aw_reg ?_)
    refine s_t (x_q (e_move rfl) rfl ?_)
    refine s_t (x_q (e_len rfl (lenOwn un22 hnone)) rfl ?_)
    refine s_t (x_q (e_assign rfl) rfl ?_)
    refine s_t (x_q (e_assign rfl) rfl ?_)
    refine s_t (x_q (e_assign rfl) rfl ?_)
    refine s_nil ?_
    refine aw_ret (fn_ret rfl ⟨⟨.slice none 0 0, ?_, ?_⟩, g4.fr, by omega, g4.frame⟩)
    · rw [lim (.inr h60)]; rfl
    · rw [lim (.inr h60)]; exact rdMsg_nil _
  rw [if_neg (by rw [hfe]; simp [h60])] at hsp2
  obtain ⟨ti, hi, hz, hsz, hbt⟩ := info_of info31
  have hset : ∀ b, b < n3 + 1 → (h4.set (n3 + 1) (some (.cells [.string t, u] 31 2 0 false true))).get b = h4.get b := fun b hb => Tr.get_set_ne _ _ (by omega)
  have hlo : ∀ b, ob = some b → b < n3 + 1 := fun b e => by have := g4.own.2; subst e; exact this.2.1
  have hlo2 : ∀ b, ob = some b → b < n1 := fun b e => by have := g2.own.2; subst e; exact this.2.1
  have ho1 := g4.own.keep (fun b e => hset b (hlo b e)) (Nat.le_succ (n3 + 1))
  obtain ⟨happ, hown⟩ := own_app (P := Tryz.prog) (t := 22) (u := 22) un22 un22 (fun k h => by cases h) hi hz hsz (by decide) rfl rfl ho1 (x := .slice (some ⟨n3 + 1, 0, none⟩) 1 1) (k := 1) (vs := [.string t, u])
      (by unfold srcA ldCells; simp only [Tr.get_set_same]; rfl) (by decide) rfl (by show (bif true then (bif u.oneCell' then true else false) else false) = true; rw [huo]; rfl) (by rw [hbt]; omega) (by omega)
  refine aw_seq (aw_reg ?_)
  refine s_t (x_q (e_load rfl (hld)) rfl ?_)
  refine s_t (x_pure rfl rfl rfl (fits_c hrd4 hfitE g4.fr hfe) ?_)
  refine s_t (x_q (e_un rfl rfl) rfl ?_)
  refine s_t (x_q (e_move rfl) rfl ?_)
  refine s_g rfl (x_q (e_move rfl) rfl ?_)
  refine s_g rfl (x_q (e_len rfl (lenOwn un22 hnone)) rfl ?_)
  refine s_g rfl (x_q (e_bin rfl rfl (eF (by omega))) rfl ?_)
  refine s_t (x_q (e_pickF rfl rfl rfl) rfl ?_)
  refine s_t (x_q (e_assign rfl) rfl ?_)
  refine s_nil ?_
  refine (aw_ifF rfl (aw_skip ?_))
  refine aw_reg ?_
  refine s_t (x_q (e_move rfl) rfl ?_)
  refine s_t (x_q (e_load rfl (hld)) rfl ?_)
  refine s_t (x_bs rfl (bs22 _ _ _ huc) rfl ?_)
  refine s_t (x_app rfl rfl happ rfl ?_)
  refine s_t (x_q (e_assign rfl) rfl ?_)
  refine s_nil ?_
  generalize hh : Tr.set (unO (h4.set (n3 + 1) _) ob) (n3 + 1 + 1) _ = h5 at *
  have hf5 : ∀ i, i < n3 + 1 → ob ≠ some i → h5.get i = h4.get i := fun i hi ho => by rw [← hh, Own.get_other (by omega) ho, hset i hi]
  have hfr5 : Fr h5 (n3 + 1 + 1 + 1) := by rw [← hh]; exact (unO_fr (hfr4.new _)).new _
  clear hh
  refine ⟨⟨k3, some (n3 + 1 + 1), M ++ [(⟨t, els⟩, u)], h5, n3 + 1 + 1 + 1⟩, ⟨hk5, ⟨?_, ?_, fun p hp2 => ?_, fun e => (by cases e; omega), hfr5, by show nx < n3 + 1 + 1 + 1; omega, fun b e => (by cases e; omega), fun i hi => ?_⟩, ?_, ?_⟩, by simp only; omega, wk_tms (wk_cons rfl (wk_cons (by simp only [List.length_append, List.length_singleton]; rfl) wk_nil)) sub_rfl (Nat.le_refl _)⟩
  · unfold Scan; rw [hf5 nx (by omega) g4.ne]; exact g4.sc
  · rw [List.length_append, mvL_app]; exact hown
  · rcases List.mem_append.1 hp2 with hp2 | hp2
    · refine (g4.rd p hp2).mono fun i o h => ?_
      obtain ⟨a1, a2, a3⟩ := rest_get h
      have := hfr4 i o a3
      exact rest_mk a1 (fun e => by cases e; omega) (by rw [hf5 i this a2]; exact a3)
    · rw [List.mem_singleton.1 hp2]
      refine hrd.mono fun i o h => ?_
      obtain ⟨a1, a2⟩ := fromA_some h
      have := g3.fr i o a2
      exact rest_mk (by omega) (fun e => by cases e; omega) (by rw [hf5 i (by omega) (fun e => by have := hlo2 i e; omega), hf4 i (by omega)]; exact a2)
  · rw [hf5 i (by omega) (fun e => by have := g4.low i e; omega)]; exact g4.frame i hi
  · simp only [List.length_append, List.length_singleton]; omega
  · rw [hsp2, List.map_append]; rfl
end Go.Proofs.YtkjkoejnicbieaaGreat.AM

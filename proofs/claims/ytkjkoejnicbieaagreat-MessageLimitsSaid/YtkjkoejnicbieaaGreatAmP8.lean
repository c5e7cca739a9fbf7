/-
  The message's functions, walked: the scanner's 'part'.
-/
import Derived.Test.YtkjkoejnicbieaaGreatAmP7
import Derived.Test.YtkjkoejnicbieaaGreatAmP2
namespace Go.Proofs.YtkjkoejnicbieaaGreat.AM
open Go Go.RowKit

def isSign3 (c : UInt8) : Bool := c == 43 || c == 58 || c == 39
/-- A part, and what is left behind it. -/
def pPart : List UInt8 → Option (List UInt8 × List UInt8)
  | [] => some ([], [])
  | c :: t =>
    if isSign3 c = true then some ([], c :: t)
    else if c = 63 then
      match t with
      | [] => none
      | d :: t' => if isSign d = true then (pPart t').map fun x => (d :: x.1, x.2) else none
    else if okCh c = true then (pPart t).map fun x => (c :: x.1, x.2) else none

theorem pPart_nil : pPart [] = some ([], []) := rfl
theorem pPart_cons (c : UInt8) (t : List UInt8) : pPart (c :: t) = if isSign3 c = true then some ([], c :: t)
    else if c = 63 then
      match t with
      | [] => none
      | d :: t' => if isSign d = true then (pPart t').map fun x => (d :: x.1, x.2) else none
    else if okCh c = true then (pPart t).map fun x => (c :: x.1, x.2) else none := by
  cases t with
  | nil => rw [pPart]; rfl
  | cons d t => rw [pPart]

def pre (l : List UInt8) (o : Option (List UInt8 × List UInt8)) : Option (List UInt8 × List UInt8) := o.map fun x => (l ++ x.1, x.2)
theorem pre_nil (o : Option (List UInt8 × List UInt8)) : pre [] o = o := by cases o <;> rfl
theorem pre_snoc (l : List UInt8) (c : UInt8) (o : Option (List UInt8 × List UInt8)) : pre l (o.map fun x => (c :: x.1, x.2)) = pre (l ++ [c]) o := by cases o <;> simp [pre]

theorem drop_at {s : ByteArray} {k : Nat} (hk : k < s.size) : s.data.toList.drop k = s.data.toList.getD k 0 :: s.data.toList.drop (k + 1) := by
  have hl : k < s.data.toList.length := by rw [size_list]; exact hk
  rw [List.drop_eq_getElem_cons hl, List.getD_eq_getElem?_getD, List.getElem?_eq_getElem hl]; rfl
theorem drop_end {s : ByteArray} {k : Nat} (hk : s.size ≤ k) : s.data.toList.drop k = [] := List.drop_of_length_le (by rw [size_list]; exact hk)
theorem at_get {s : ByteArray} {k : Nat} (hk : k < s.size) : s.data.toList[k]? = some (s.data.toList.getD k 0) := getD_some (by rw [size_list]; exact hk)

theorem sign3_eq (c : UInt8) : sign3 c.toNat = isSign3 c := by
  have h : ∀ n : Nat, n < 256 → Nat.beq c.toNat n = (c == UInt8.ofNat n) := fun n hn => by
    rw [Bool.eq_iff_iff, Nat.beq_eq, beq_iff_eq]
    constructor
    · intro e; rw [← e]; simp
    · intro e; rw [e]; simp; omega
  unfold sign3 isSign3
  rw [h 43 (by decide), h 58 (by decide), h 39 (by decide)]; rfl
theorem sign4_eq (c : UInt8) : sign4 c.toNat = isSign c := by
  have h : ∀ n : Nat, n < 256 → Nat.beq c.toNat n = (c == UInt8.ofNat n) := fun n hn => by
    rw [Bool.eq_iff_iff, Nat.beq_eq, beq_iff_eq]
    constructor
    · intro e; rw [← e]; simp
    · intro e; rw [e]; simp; omega
  unfold sign4 isSign
  rw [h 43 (by decide), h 58 (by decide), h 39 (by decide), h 63 (by decide)]; rfl
theorem isSign_ok {c : UInt8} (h : isSign c = true) : 32 ≤ c.toNat ∧ c.toNat ≤ 126 := by
  unfold isSign at h
  simp only [Bool.or_eq_true, beq_iff_eq] at h
  rcases h with ((h | h) | h) | h <;> subst h <;> decide

/-- The scanner at a place. -/
def Scan (hp : Tr AObj) (r : Nat) (s : ByteArray) (k : Nat) : Prop := hp.get r = some (.cells [.string s, .int .i64 (k : Int)] 67 2 0 false true)

structure PS where
  k : Nat
  l : List UInt8
  ob : Option Nat
  adr : Value
  hp : Tr AObj
  nx : Nat

/-- What a scanner's method leaves alone. -/
structure SG (hp : Tr AObj) (nx r : Nat) (hp' : Tr AObj) (nx' : Nat) : Prop where
  le : nx ≤ nx'
  fr : Fr hp' nx'
  frame : ∀ i, i < nx → i ≠ r → hp'.get i = hp.get i

def PartV (s : ByteArray) (k : Nat) (v : Value) (k' : Nat) : Prop :=
  match pPart (s.data.toList.drop k) with
  | some (p, rest) => v = .tuple #[.string ⟨p.toArray⟩, .bool true] ∧ rest = s.data.toList.drop k'
  | none => v = .tuple #[.string ⟨#[]⟩, .bool false]

theorem partV_some {s : ByteArray} {k k' : Nat} {v : Value} {p rest : List UInt8} (h : pPart (s.data.toList.drop k) = some (p, rest)) (hv : v = .tuple #[.string ⟨p.toArray⟩, .bool true]) (hr : rest = s.data.toList.drop k') : PartV s k v k' := by
  unfold PartV; rw [h]; exact ⟨hv, hr⟩
theorem partV_none {s : ByteArray} {k k' : Nat} {v : Value} (h : pPart (s.data.toList.drop k) = none) (hv : v = .tuple #[.string ⟨#[]⟩, .bool false]) : PartV s k v k' := by
  unfold PartV; rw [h]; exact hv

set_option maxHeartbeats 2000000 in
theorem part_c {hp : Tr AObj} {nx r k0 : Nat} {s : ByteArray} (hr : Scan hp r s k0) (hk0 : k0 ≤ s.size) (hs : s.size ≤ 140737488355327) (hf : Fr hp nx) :
    ACall Tryz.prog 0 45 [.pointer (some ⟨r, 0, none⟩)] hp nx (fun v hp' nx' => ∃ k', k0 ≤ k' ∧ k' ≤ s.size ∧ Scan hp' r s k' ∧ SG hp nx r hp' nx' ∧ PartV s k0 v k') := by
  refine acall_fn named7 Tryz.func45 rfl rfl ?_
  show AW _ _ _ _ ⟨tms [(0, .pointer (some ⟨r, 0, none⟩))], hp, nx, []⟩ _
  have hrl : r < nx := hf r _ hr
  refine aw_seq (aw_reg ?_)
  refine s_t (x_q (e_assign rfl) rfl ?_)
  refine s_t (x_q (e_assign rfl) rfl ?_)
  refine s_nil ?_
  refine aw_seq (aw_reg ?_)
  refine s_t (x_alloc ze50 sz50 rfl rfl ?_)
  refine s_nil ?_
  generalize hh : hp.set nx _ = hp1
  have hb0 : hp1.get nx = some (.cells [.pointer none, .slice none 0 0] 50 2 0 false true) := by rw [← hh]; exact Tr.get_set_same _ _ _
  have hf1 : ∀ i, i ≠ nx → hp1.get i = hp.get i := fun i hi => by rw [← hh]; exact Tr.get_set_ne _ _ hi
  have hfr1 : Fr hp1 (nx + 1) := by rw [← hh]; exact hf.new _
  clear hh
  refine aw_seq (aw_block (aw_loop (α := PS) (fun x => ⟨tms [(0, .pointer (some ⟨r, 0, none⟩)), (4, .pointer (some ⟨nx, 0, none⟩))], x.hp, x.nx, []⟩) (fun x => k0 ≤ x.k ∧ x.k ≤ s.size ∧ Scan x.hp r s x.k ∧ Bld x.hp x.nx nx x.l x.ob x.adr ∧ (∀ y, x.ob = some y → nx ≤ y) ∧ SG hp nx r x.hp x.nx ∧ x.l.length ≤ x.k ∧ pPart (s.data.toList.drop k0) = pre x.l (pPart (s.data.toList.drop x.k))) (fun x => s.size - x.k) ⟨k0, [], none, .pointer none, hp1, nx + 1⟩ ⟨Nat.le_refl _, hk0, (hf1 r (by omega)).trans hr, ⟨hb0, .inl rfl, Own.nil _ _ _ _, (by intro h; cases h), Nat.lt_succ_self _⟩, (by intro y h; cases h), ⟨Nat.le_succ _, hfr1, fun i hi _ => hf1 i (by omega)⟩, Nat.zero_le _, (pre_nil _).symm⟩ (wk_tms (wk_cons rfl (wk_cons rfl wk_nil)) sub_rfl (Nat.le_refl _)) ?_))
  rintro ⟨k, l, ob, adr, h1, n1⟩ ⟨hk1, hk2, hsc, hbld, hob, hsg, hll, hpp⟩
  simp only at hk1 hk2 hsc hbld hob hsg hll hpp
  dsimp only
  have hrb : r ≠ nx := by omega
  have hro : ob ≠ some r := fun e => Nat.lt_irrefl _ (Nat.lt_of_lt_of_le hrl (hob r e))
  by_cases hlt : k < s.size
  case neg =>
    rw [drop_end (k := k) (by omega)] at hpp
    refine aw_seq (aw_seq (aw_any mixed7 [(0, true), (1, false), (2, true), (3, true), (4, true), (5, true), (7, true), (8, true), (9, true), (6, true), (10, true), (11, true), (12, false), (13, false), (14, true), (15, true)] (by kernel_rfl) (by kernel_rfl) (by kernel_rfl) ?_))
    refine a_q rfl (e_move rfl) rfl ?_
    refine a_r rfl (x_pure rfl rfl rfl (more_c hsc (decide_eq_false (by omega))) ?_)
    refine a_q rfl (e_move rfl) rfl ?_
    refine a_qn rfl rfl rfl rfl ?_
    refine a_qn rfl rfl rfl rfl ?_
    refine a_qn rfl rfl rfl rfl ?_
    refine a_qn rfl rfl rfl rfl ?_
    refine a_qn rfl rfl rfl rfl ?_
    refine a_qn rfl rfl rfl rfl ?_
    refine a_qn rfl rfl rfl rfl ?_
    refine a_qn rfl rfl rfl rfl ?_
    refine a_qn rfl rfl rfl rfl ?_
    refine a_rn rfl rfl rfl ?_
    refine a_rn rfl rfl rfl ?_
    refine a_qn rfl rfl rfl rfl ?_
    refine a_q rfl (e_pickF rfl rfl rfl) rfl ?_
    refine (aw_ifF rfl (aw_exit ?_))
    refine aw_seq (aw_reg ?_)
    refine s_t (x_call rfl rfl rfl (bstr_c hbld (by omega)) ?_)
    rintro _ h2 n2 ⟨rfl, f2, fr2, e2⟩
    obtain rfl : n1 = n2 := e2.symm
    refine s_t (x_q (e_assign rfl) rfl ?_)
    refine s_t (x_q (e_assign rfl) rfl ?_)
    refine s_nil ?_
    refine aw_ret (fn_ret rfl ⟨k, hk1, hk2, by unfold Scan; rw [f2 r hro]; exact hsc, ⟨hsg.le, fr2 hsg.fr, fun i hi hir => by rw [f2 i fun e => by have := hob i e; omega, hsg.frame i hi hir]⟩, ?_⟩)
    exact partV_some (p := l) (rest := []) (by rw [hpp]; simp only [pPart_nil, pPart_cons, pre, Option.map_some, List.append_nil]) rfl (drop_end (by omega)).symm
  have hget := at_get hlt
  rw [drop_at hlt] at hpp
  have hdr := drop_at hlt
  generalize s.data.toList.getD k 0 = c at *
  cases hs3 : isSign3 c with
  | true =>
    refine aw_seq (aw_seq (aw_any mixed7 [(0, true), (1, false), (2, true), (3, true), (4, true), (5, true), (7, true), (8, true), (9, true), (6, true), (10, true), (11, true), (12, false), (13, false), (14, true), (15, true)] (by kernel_rfl) (by kernel_rfl) (by kernel_rfl) ?_))
    refine a_q rfl (e_move rfl) rfl ?_
    refine a_r rfl (x_pure rfl rfl rfl (more_c hsc (decide_eq_true (by omega))) ?_)
    refine a_q rfl (e_move rfl) rfl ?_
    refine a_qg rfl rfl (e_move rfl) rfl ?_
    refine a_qg rfl rfl (e_nilP rfl) rfl ?_
    refine a_qg rfl rfl (e_fa rfl (fa67_0 _ _)) rfl ?_
    refine a_qg rfl rfl (e_move rfl) rfl ?_
    refine a_qg rfl rfl (e_nilP rfl) rfl ?_
    refine a_qg rfl rfl (e_fa rfl (fa67_1 _ _)) rfl ?_
    refine a_qg rfl rfl (e_load rfl (ld1 ag9 hsc rfl)) rfl ?_
    refine a_qg rfl rfl (e_load rfl (ld1 ag3 hsc rfl)) rfl ?_
    refine a_qg rfl rfl (e_ix rfl rfl (ixStr un9 hget)) rfl ?_
    refine a_rg rfl rfl (x_q (e_conv rfl (by kernel_rfl) (cv5_21 _ _)) rfl ?_)
    refine a_rg rfl rfl (x_pure rfl rfl rfl (crune3_c ((sign3_eq c).trans hs3)) ?_)
    refine a_qg rfl rfl (e_un rfl rfl) rfl ?_
    refine a_q rfl (e_pickT rfl rfl rfl) rfl ?_
    refine (aw_ifF rfl (aw_exit ?_))
    refine aw_seq (aw_reg ?_)
    refine s_t (x_call rfl rfl rfl (bstr_c hbld (by omega)) ?_)
    rintro _ h2 n2 ⟨rfl, f2, fr2, e2⟩
    obtain rfl : n1 = n2 := e2.symm
    refine s_t (x_q (e_assign rfl) rfl ?_)
    refine s_t (x_q (e_assign rfl) rfl ?_)
    refine s_nil ?_
    refine aw_ret (fn_ret rfl ⟨k, hk1, hk2, by unfold Scan; rw [f2 r hro]; exact hsc, ⟨hsg.le, fr2 hsg.fr, fun i hi hir => by rw [f2 i fun e => by have := hob i e; omega, hsg.frame i hi hir]⟩, ?_⟩)
    exact partV_some (p := l) (rest := c :: s.data.toList.drop (k + 1)) (by rw [hpp]; simp only [pPart_nil, pPart_cons, hs3, if_true, pre, Option.map_some, List.append_nil]) rfl hdr.symm
  | false =>
  refine aw_seq (aw_seq (aw_any mixed7 [(0, true), (1, false), (2, true), (3, true), (4, true), (5, true), (7, true), (8, true), (9, true), (6, true), (10, true), (11, true), (12, false), (13, false), (14, true), (15, true)] (by kernel_rfl) (by kernel_rfl) (by kernel_rfl) ?_))
  refine a_q rfl (e_move rfl) rfl ?_
  refine a_r rfl (x_pure rfl rfl rfl (more_c hsc (decide_eq_true (by omega))) ?_)
  refine a_q rfl (e_move rfl) rfl ?_
  refine a_qg rfl rfl (e_move rfl) rfl ?_
  refine a_qg rfl rfl (e_nilP rfl) rfl ?_
  refine a_qg rfl rfl (e_fa rfl (fa67_0 _ _)) rfl ?_
  refine a_qg rfl rfl (e_move rfl) rfl ?_
  refine a_qg rfl rfl (e_nilP rfl) rfl ?_
  refine a_qg rfl rfl (e_fa rfl (fa67_1 _ _)) rfl ?_
  refine a_qg rfl rfl (e_load rfl (ld1 ag9 hsc rfl)) rfl ?_
  refine a_qg rfl rfl (e_load rfl (ld1 ag3 hsc rfl)) rfl ?_
  refine a_qg rfl rfl (e_ix rfl rfl (ixStr un9 hget)) rfl ?_
  refine a_rg rfl rfl (x_q (e_conv rfl (by kernel_rfl) (cv5_21 _ _)) rfl ?_)
  refine a_rg rfl rfl (x_pure rfl rfl rfl (crune3_c ((sign3_eq c).trans hs3)) ?_)
  refine a_qg rfl rfl (e_un rfl rfl) rfl ?_
  refine a_q rfl (e_pickT rfl rfl rfl) rfl ?_
  refine (aw_ifT rfl (aw_skip ?_))
  refine aw_block ?_
  refine aw_seq (aw_any mixed7 [(0, true), (1, true), (2, true), (4, true), (5, true), (6, true), (3, true), (7, true), (8, true), (9, true)] (by kernel_rfl) (by kernel_rfl) (by kernel_rfl) ?_)
  refine a_q rfl (e_move rfl) rfl ?_
  refine a_q rfl (e_nilP rfl) rfl ?_
  refine a_q rfl (e_fa rfl (fa67_0 _ _)) rfl ?_
  refine a_q rfl (e_move rfl) rfl ?_
  refine a_q rfl (e_nilP rfl) rfl ?_
  refine a_q rfl (e_fa rfl (fa67_1 _ _)) rfl ?_
  refine a_q rfl (e_load rfl (ld1 ag9 hsc rfl)) rfl ?_
  refine a_q rfl (e_load rfl (ld1 ag3 hsc rfl)) rfl ?_
  refine a_q rfl (e_ix rfl rfl (ixStr un9 hget)) rfl ?_
  refine a_q rfl (e_assign rfl) rfl ?_
  by_cases h63 : c = 63
  · subst h63
    refine aw_seq (aw_seq (aw_reg ?_))
    refine s_t (x_q (e_move rfl) rfl ?_)
    refine s_t (x_q (e_bin rfl rfl rfl) rfl ?_)
    refine s_nil ?_
    refine (aw_ifT rfl ?_)
    refine aw_seq (aw_reg ?_)
    refine s_t (x_q (e_move rfl) rfl ?_)
    refine s_t (x_q (e_nilP rfl) rfl ?_)
    refine s_t (x_q (e_fa rfl (fa67_1 _ _)) rfl ?_)
    refine s_t (x_q (e_load rfl (ld1 ag3 hsc rfl)) rfl ?_)
    refine s_t (x_q (e_bin rfl rfl (b_addN _ 1 (by omega))) rfl ?_)
    refine s_t (x_q (e_nilP rfl) rfl ?_)
    refine s_t (x_q (e_fa rfl (fa67_1 _ _)) rfl ?_)
    refine s_t (x_store rfl rfl (st1 sz3 rfl hsc rfl rfl rfl rfl) ?_)
    refine s_nil ?_
    generalize hh : h1.set r _ = h2
    have hsc2 : Scan h2 r s (k + 1) := by rw [← hh]; exact Tr.get_set_same _ _ _
    have hf2 : ∀ i, i ≠ r → h2.get i = h1.get i := fun i hi => by rw [← hh]; exact Tr.get_set_ne _ _ hi
    have hfr2 : Fr h2 n1 := by rw [← hh]; exact hsg.fr.set (hsg.fr r _ hsc) _
    clear hh
    by_cases hlt2 : k + 1 < s.size
    case neg =>
      refine aw_seq (aw_seq (aw_any mixed7 [(0, true), (1, false), (2, true), (3, true), (4, true), (5, true), (6, true), (8, true), (9, true), (10, true), (7, true), (11, true), (12, true), (13, false), (14, false), (15, true), (16, true)] (by kernel_rfl) (by kernel_rfl) (by kernel_rfl) ?_))
      refine a_q rfl (e_move rfl) rfl ?_
      refine a_r rfl (x_pure rfl rfl rfl (more_c hsc2 (decide_eq_false (by omega))) ?_)
      refine a_q rfl (e_un rfl rfl) rfl ?_
      refine a_q rfl (e_move rfl) rfl ?_
      refine a_qn rfl rfl rfl rfl ?_
      refine a_qn rfl rfl rfl rfl ?_
      refine a_qn rfl rfl rfl rfl ?_
      refine a_qn rfl rfl rfl rfl ?_
      refine a_qn rfl rfl rfl rfl ?_
      refine a_qn rfl rfl rfl rfl ?_
      refine a_qn rfl rfl rfl rfl ?_
      refine a_qn rfl rfl rfl rfl ?_
      refine a_qn rfl rfl rfl rfl ?_
      refine a_rn rfl rfl rfl ?_
      refine a_rn rfl rfl rfl ?_
      refine a_qn rfl rfl rfl rfl ?_
      refine a_q rfl (e_pickT rfl rfl rfl) rfl ?_
      refine (aw_ifT rfl ?_)
      refine aw_seq (aw_reg ?_)
      refine s_t (x_q (e_assign rfl) rfl ?_)
      refine s_t (x_q (e_assign rfl) rfl ?_)
      refine s_nil ?_
      refine aw_ret (fn_ret rfl ⟨k + 1, by omega, by omega, hsc2, ⟨hsg.le, hfr2, fun i hi hir => by rw [hf2 i hir, hsg.frame i hi hir]⟩, ?_⟩)
      exact partV_none (by rw [hpp, drop_end (k := k + 1) (by omega)]; simp only [pPart_nil, pPart_cons, hs3, Bool.false_eq_true, if_false, if_true, pre, Option.map_none]) rfl
    have hget2 := at_get hlt2
    have hdr2 := drop_at hlt2
    rw [hdr2] at hpp
    generalize s.data.toList.getD (k + 1) 0 = d at *
    cases hs4 : isSign d with
    | false =>
      refine aw_seq (aw_seq (aw_any mixed7 [(0, true), (1, false), (2, true), (3, true), (4, true), (5, true), (6, true), (8, true), (9, true), (10, true), (7, true), (11, true), (12, true), (13, false), (14, false), (15, true), (16, true)] (by kernel_rfl) (by kernel_rfl) (by kernel_rfl) ?_))
      refine a_q rfl (e_move rfl) rfl ?_
      refine a_r rfl (x_pure rfl rfl rfl (more_c hsc2 (decide_eq_true (by omega))) ?_)
      refine a_q rfl (e_un rfl rfl) rfl ?_
      refine a_q rfl (e_move rfl) rfl ?_
      refine a_qg rfl rfl (e_move rfl) rfl ?_
      refine a_qg rfl rfl (e_nilP rfl) rfl ?_
      refine a_qg rfl rfl (e_fa rfl (fa67_0 _ _)) rfl ?_
      refine a_qg rfl rfl (e_move rfl) rfl ?_
      refine a_qg rfl rfl (e_nilP rfl) rfl ?_
      refine a_qg rfl rfl (e_fa rfl (fa67_1 _ _)) rfl ?_
      refine a_qg rfl rfl (e_load rfl (ld1 ag9 hsc2 rfl)) rfl ?_
      refine a_qg rfl rfl (e_load rfl (ld1 ag3 hsc2 rfl)) rfl ?_
      refine a_qg rfl rfl (e_ix rfl rfl (ixStr un9 hget2)) rfl ?_
      refine a_rg rfl rfl (x_q (e_conv rfl (by kernel_rfl) (cv5_21 _ _)) rfl ?_)
      refine a_rg rfl rfl (x_pure rfl rfl rfl (crune4_c ((sign4_eq d).trans hs4)) ?_)
      refine a_qg rfl rfl (e_un rfl rfl) rfl ?_
      refine a_q rfl (e_pickF rfl rfl rfl) rfl ?_
      refine (aw_ifT rfl ?_)
      refine aw_seq (aw_reg ?_)
      refine s_t (x_q (e_assign rfl) rfl ?_)
      refine s_t (x_q (e_assign rfl) rfl ?_)
      refine s_nil ?_
      refine aw_ret (fn_ret rfl ⟨k + 1, by omega, by omega, hsc2, ⟨hsg.le, hfr2, fun i hi hir => by rw [hf2 i hir, hsg.frame i hi hir]⟩, ?_⟩)
      exact partV_none (by rw [hpp]; simp only [pPart_nil, pPart_cons, hs3, hs4, Bool.false_eq_true, if_false, if_true, pre, Option.map_none]) rfl
    | true =>
      have hok := isSign_ok hs4
      refine aw_seq (aw_seq (aw_any mixed7 [(0, true), (1, false), (2, true), (3, true), (4, true), (5, true), (6, true), (8, true), (9, true), (10, true), (7, true), (11, true), (12, true), (13, false), (14, false), (15, true), (16, true)] (by kernel_rfl) (by kernel_rfl) (by kernel_rfl) ?_))
      refine a_q rfl (e_move rfl) rfl ?_
      refine a_r rfl (x_pure rfl rfl rfl (more_c hsc2 (decide_eq_true (by omega))) ?_)
      refine a_q rfl (e_un rfl rfl) rfl ?_
      refine a_q rfl (e_move rfl) rfl ?_
      refine a_qg rfl rfl (e_move rfl) rfl ?_
      refine a_qg rfl rfl (e_nilP rfl) rfl ?_
      refine a_qg rfl rfl (e_fa rfl (fa67_0 _ _)) rfl ?_
      refine a_qg rfl rfl (e_move rfl) rfl ?_
      refine a_qg rfl rfl (e_nilP rfl) rfl ?_
      refine a_qg rfl rfl (e_fa rfl (fa67_1 _ _)) rfl ?_
      refine a_qg rfl rfl (e_load rfl (ld1 ag9 hsc2 rfl)) rfl ?_
      refine a_qg rfl rfl (e_load rfl (ld1 ag3 hsc2 rfl)) rfl ?_
      refine a_qg rfl rfl (e_ix rfl rfl (ixStr un9 hget2)) rfl ?_
      refine a_rg rfl rfl (x_q (e_conv rfl (by kernel_rfl) (cv5_21 _ _)) rfl ?_)
      refine a_rg rfl rfl (x_pure rfl rfl rfl (crune4_c ((sign4_eq d).trans hs4)) ?_)
      refine a_qg rfl rfl (e_un rfl rfl) rfl ?_
      refine a_q rfl (e_pickF rfl rfl rfl) rfl ?_
      refine (aw_ifF rfl (aw_skip ?_))
      refine aw_any mixed7 [(0, true), (1, true), (2, true), (4, true), (5, true), (6, true), (3, true), (7, true), (8, true), (9, true)] (by kernel_rfl) (by kernel_rfl) (by kernel_rfl) ?_
      refine a_q rfl (e_move rfl) rfl ?_
      refine a_q rfl (e_nilP rfl) rfl ?_
      refine a_q rfl (e_fa rfl (fa67_0 _ _)) rfl ?_
      refine a_q rfl (e_move rfl) rfl ?_
      refine a_q rfl (e_nilP rfl) rfl ?_
      refine a_q rfl (e_fa rfl (fa67_1 _ _)) rfl ?_
      refine a_q rfl (e_load rfl (ld1 ag9 hsc2 rfl)) rfl ?_
      refine a_q rfl (e_load rfl (ld1 ag3 hsc2 rfl)) rfl ?_
      refine a_q rfl (e_ix rfl rfl (ixStr un9 hget2)) rfl ?_
      refine a_q rfl (e_assign rfl) rfl ?_
      refine aw_seq (aw_seq (aw_reg ?_))
      refine s_t (x_q (e_move rfl) rfl ?_)
      refine s_t (x_q (e_bin rfl rfl (dF (by omega))) rfl ?_)
      refine s_t (x_q (e_move rfl) rfl ?_)
      refine s_g rfl (x_q (e_move rfl) rfl ?_)
      refine s_g rfl (x_q (e_bin rfl rfl (dF (by omega))) rfl ?_)
      refine s_t (x_q (e_pickF rfl rfl rfl) rfl ?_)
      refine s_nil ?_
      refine (aw_ifF rfl (aw_skip ?_))
      have hbld2 : Bld h2 n1 nx l ob adr := ⟨by rw [hf2 nx (Ne.symm hrb)]; exact hbld.get, hbld.ad, hbld.own.keep (fun y hy => hf2 y fun e => hro (by rw [hy, e])) (Nat.le_refl _), hbld.ne, hbld.lt⟩
      refine aw_seq (aw_reg ?_)
      refine s_t (x_q (e_move rfl) rfl ?_)
      refine s_t (x_call rfl rfl rfl (wbyte_c hbld2 d (by omega)) ?_)
      rintro _ h3 n3 ⟨ob3, hbld3, hbg⟩
      refine s_nil ?_
      have hsc3 : Scan h3 r s (k + 1) := by unfold Scan; rw [hbg.frame r (hsg.fr r _ hsc) hrb hro]; exact hsc2
      have hob3 : ∀ y, ob3 = some y → nx ≤ y := fun y hy => by
        rcases hbg.ob y hy with h | h
        · exact hob y h
        · exact Nat.le_trans hsg.le h
      refine aw_reg ?_
      refine s_t (x_q (e_move rfl) rfl ?_)
      refine s_t (x_q (e_nilP rfl) rfl ?_)
      refine s_t (x_q (e_fa rfl (fa67_1 _ _)) rfl ?_)
      refine s_t (x_q (e_load rfl (ld1 ag3 hsc3 rfl)) rfl ?_)
      refine s_t (x_q (e_bin rfl rfl (b_addN _ 1 (by omega))) rfl ?_)
      refine s_t (x_q (e_nilP rfl) rfl ?_)
      refine s_t (x_q (e_fa rfl (fa67_1 _ _)) rfl ?_)
      refine s_t (x_store rfl rfl (st1 sz3 rfl hsc3 rfl rfl rfl rfl) ?_)
      refine s_nil ?_
      generalize hh : h3.set r _ = h4
      have hsc4 : Scan h4 r s (k + 2) := by rw [← hh]; exact Tr.get_set_same _ _ _
      have hf4 : ∀ i, i ≠ r → h4.get i = h3.get i := fun i hi => by rw [← hh]; exact Tr.get_set_ne _ _ hi
      have hfr4 : Fr h4 n3 := by rw [← hh]; exact (hbg.fr hfr2).set (Nat.lt_of_lt_of_le hrl (Nat.le_trans hsg.le hbg.le)) _
      clear hh
      refine ⟨⟨k + 2, l ++ [d], ob3, .pointer (some ⟨nx, 0, none⟩), h4, n3⟩, ⟨by simp only; omega, by simp only; omega, hsc4, ⟨by rw [hf4 nx (Ne.symm hrb)]; exact hbld3.get, hbld3.ad, hbld3.own.keep (fun y hy => hf4 y (fun e => by have := hob3 y hy; omega)) (Nat.le_refl _), hbld3.ne, hbld3.lt⟩, hob3, ⟨Nat.le_trans hsg.le hbg.le, hfr4, fun i hi hir => ?_⟩, by simp only [List.length_append, List.length_singleton]; omega, ?_⟩, by simp only; omega, wk_tms (wk_cons rfl (wk_cons rfl wk_nil)) sub_rfl (Nat.le_refl _)⟩
      · rw [hf4 i hir, hbg.frame i (Nat.lt_of_lt_of_le hi hsg.le) (by omega) (fun e => by have := hob i e; omega), hf2 i hir, hsg.frame i hi hir]
      · rw [hpp, ← pre_snoc]
        simp only [pPart_nil, pPart_cons, hs3, hs4, Bool.false_eq_true, if_false, if_true]
  · have hb63 : ((c.toNat : Int) == 63) = false := by rw [beq_eq_false_iff_ne]; exact byte_ne (n := 63) (by decide) h63
    refine aw_seq (aw_seq (aw_reg ?_))
    refine s_t (x_q (e_move rfl) rfl ?_)
    refine s_t (x_q (e_bin rfl rfl (bIs hb63)) rfl ?_)
    refine s_nil ?_
    refine (aw_ifF rfl (aw_skip ?_))
    by_cases hlo : c.toNat < 32
    · have hno : okCh c = false := by unfold okCh; rw [decide_eq_false (by omega)]; rfl
      refine aw_seq (aw_seq (aw_reg ?_))
      refine s_t (x_q (e_move rfl) rfl ?_)
      refine s_t (x_q (e_bin rfl rfl (dT (by omega))) rfl ?_)
      refine s_t (x_q (e_move rfl) rfl ?_)
      refine s_n rfl rfl ?_
      refine s_n rfl rfl ?_
      refine s_t (x_q (e_pickT rfl rfl rfl) rfl ?_)
      refine s_nil ?_
      refine (aw_ifT rfl ?_)
      refine aw_seq (aw_reg ?_)
      refine s_t (x_q (e_assign rfl) rfl ?_)
      refine s_t (x_q (e_assign rfl) rfl ?_)
      refine s_nil ?_
      refine aw_ret (fn_ret rfl ⟨k, hk1, hk2, hsc, hsg, ?_⟩)
      exact partV_none (by rw [hpp]; simp only [pPart_nil, pPart_cons, hs3, hno, h63, Bool.false_eq_true, if_false, pre, Option.map_none]) rfl
    by_cases hhi : 126 < c.toNat
    · have hno : okCh c = false := by unfold okCh; rw [decide_eq_false (p := c.toNat ≤ 126) (by omega), Bool.and_false]
      refine aw_seq (aw_seq (aw_reg ?_))
      refine s_t (x_q (e_move rfl) rfl ?_)
      refine s_t (x_q (e_bin rfl rfl (dF (by omega))) rfl ?_)
      refine s_t (x_q (e_move rfl) rfl ?_)
      refine s_g rfl (x_q (e_move rfl) rfl ?_)
      refine s_g rfl (x_q (e_bin rfl rfl (dT (by omega))) rfl ?_)
      refine s_t (x_q (e_pickF rfl rfl rfl) rfl ?_)
      refine s_nil ?_
      refine (aw_ifT rfl ?_)
      refine aw_seq (aw_reg ?_)
      refine s_t (x_q (e_assign rfl) rfl ?_)
      refine s_t (x_q (e_assign rfl) rfl ?_)
      refine s_nil ?_
      refine aw_ret (fn_ret rfl ⟨k, hk1, hk2, hsc, hsg, ?_⟩)
      exact partV_none (by rw [hpp]; simp only [pPart_nil, pPart_cons, hs3, hno, h63, Bool.false_eq_true, if_false, pre, Option.map_none]) rfl
    have hok : okCh c = true := by unfold okCh; rw [decide_eq_true (by omega), decide_eq_true (by omega)]; rfl
    refine aw_seq (aw_seq (aw_reg ?_))
    refine s_t (x_q (e_move rfl) rfl ?_)
    refine s_t (x_q (e_bin rfl rfl (dF (by omega))) rfl ?_)
    refine s_t (x_q (e_move rfl) rfl ?_)
    refine s_g rfl (x_q (e_move rfl) rfl ?_)
    refine s_g rfl (x_q (e_bin rfl rfl (dF (by omega))) rfl ?_)
    refine s_t (x_q (e_pickF rfl rfl rfl) rfl ?_)
    refine s_nil ?_
    refine (aw_ifF rfl (aw_skip ?_))
    refine aw_seq (aw_reg ?_)
    refine s_t (x_q (e_move rfl) rfl ?_)
    refine s_t (x_call rfl rfl rfl (wbyte_c hbld c (by omega)) ?_)
    rintro _ h3 n3 ⟨ob3, hbld3, hbg⟩
    refine s_nil ?_
    have hsc3 : Scan h3 r s k := by unfold Scan; rw [hbg.frame r (hsg.fr r _ hsc) hrb hro]; exact hsc
    have hob3 : ∀ y, ob3 = some y → nx ≤ y := fun y hy => by
      rcases hbg.ob y hy with h | h
      · exact hob y h
      · exact Nat.le_trans hsg.le h
    refine aw_reg ?_
    refine s_t (x_q (e_move rfl) rfl ?_)
    refine s_t (x_q (e_nilP rfl) rfl ?_)
    refine s_t (x_q (e_fa rfl (fa67_1 _ _)) rfl ?_)
    refine s_t (x_q (e_load rfl (ld1 ag3 hsc3 rfl)) rfl ?_)
    refine s_t (x_q (e_bin rfl rfl (b_addN _ 1 (by omega))) rfl ?_)
    refine s_t (x_q (e_nilP rfl) rfl ?_)
    refine s_t (x_q (e_fa rfl (fa67_1 _ _)) rfl ?_)
    refine s_t (x_store rfl rfl (st1 sz3 rfl hsc3 rfl rfl rfl rfl) ?_)
    refine s_nil ?_
    generalize hh : h3.set r _ = h4
    have hsc4 : Scan h4 r s (k + 1) := by rw [← hh]; exact Tr.get_set_same _ _ _
    have hf4 : ∀ i, i ≠ r → h4.get i = h3.get i := fun i hi => by rw [← hh]; exact Tr.get_set_ne _ _ hi
    have hfr4 : Fr h4 n3 := by rw [← hh]; exact (hbg.fr hsg.fr).set (Nat.lt_of_lt_of_le hrl (Nat.le_trans hsg.le hbg.le)) _
    clear hh
    refine ⟨⟨k + 1, l ++ [c], ob3, .pointer (some ⟨nx, 0, none⟩), h4, n3⟩, ⟨by simp only; omega, by simp only; omega, hsc4, ⟨by rw [hf4 nx (Ne.symm hrb)]; exact hbld3.get, hbld3.ad, hbld3.own.keep (fun y hy => hf4 y (fun e => by have := hob3 y hy; omega)) (Nat.le_refl _), hbld3.ne, hbld3.lt⟩, hob3, ⟨Nat.le_trans hsg.le hbg.le, hfr4, fun i hi hir => ?_⟩, by simp only [List.length_append, List.length_singleton]; omega, ?_⟩, by simp only; omega, wk_tms (wk_cons rfl (wk_cons rfl wk_nil)) sub_rfl (Nat.le_refl _)⟩
    · rw [hf4 i hir, hbg.frame i (Nat.lt_of_lt_of_le hi hsg.le) (by omega) (fun e => by have := hob i e; omega), hsg.frame i hi hir]
    · rw [hpp, ← pre_snoc]
      simp only [pPart_nil, pPart_cons, hs3, hok, h63, Bool.false_eq_true, if_false, if_true]
end Go.Proofs.YtkjkoejnicbieaaGreat.AM

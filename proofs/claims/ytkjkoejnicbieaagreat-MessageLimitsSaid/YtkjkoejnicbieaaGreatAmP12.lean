/-
  The message's functions, walked: the library's replacer of single bytes, on the texts of a message.
-/
import Derived.Test.YtkjkoejnicbieaaGreatAmP11
import Derived.Test.YtkjkoejnicbieaaGreatAmR2
namespace Go.Proofs.YtkjkoejnicbieaaGreat.AM
open Go Go.RowKit

theorem x_copyd {P : Program} {G nt : Nat} {l : List (Nat × Value)} {hp : Tr AObj} {nx : Nat} {df : List ADef} {R : St → Prop} {v u z : Value} {x y : Operand} {t s : TypeId} {d : Tmp} {ty : TypeId} {hp' : Tr AObj} (hx : evl G l x = some u) (hy : evl G l y = some v) (h : copyA P hp s u v = some (z, hp')) (hd : dstOk nt (some d) = true) (k : R ⟨tms ((d, z) :: l), hp', nx, df⟩) :
    OpX P G nt (some d) (.call ⟨.builtin .copy, #[x, y], #[s, t]⟩) ty ⟨tms l, hp, nx, df⟩ R := x_copy hx hy h hd k

theorem esc_app (a b : List UInt8) : esc (a ++ b) = esc a ++ esc b := by simp [esc]
theorem esc_le (l : List UInt8) : l.length ≤ (esc l).length ∧ (esc l).length ≤ 2 * l.length := by
  induction l with
  | nil => simp [esc]
  | cons c l ih =>
    have : esc (c :: l) = (if isSign c then [63, c] else [c]) ++ esc l := by simp [esc]
    rw [this]
    cases isSign c <;> simp <;> omega
theorem esc_none {l : List UInt8} (h : l.any isSign = false) : esc l = l := by
  induction l with
  | nil => rfl
  | cons c l ih =>
    simp only [List.any_cons, Bool.or_eq_false_iff] at h
    have : esc (c :: l) = (if isSign c then [63, c] else [c]) ++ esc l := by simp [esc]
    rw [this, h.1, ih h.2]; rfl
theorem esc_room {l : List UInt8} {k : Nat} : (esc (l.take k)).length ≤ (esc l).length := by
  have := esc_app (l.take k) (l.drop k)
  rw [List.take_append_drop] at this
  rw [this, List.length_append]; omega

theorem repIx_sign (c : UInt8) : (repIx c.toNat).isSome = isSign c := by
  by_cases h1 : c = 39
  · subst h1; rfl
  by_cases h2 : c = 43
  · subst h2; rfl
  by_cases h3 : c = 58
  · subst h3; rfl
  by_cases h4 : c = 63
  · subst h4; rfl
  have n1 : c.toNat ≠ 39 := fun e => h1 (UInt8.toNat_inj.1 e)
  have n2 : c.toNat ≠ 43 := fun e => h2 (UInt8.toNat_inj.1 e)
  have n3 : c.toNat ≠ 58 := fun e => h3 (UInt8.toNat_inj.1 e)
  have n4 : c.toNat ≠ 63 := fun e => h4 (UInt8.toNat_inj.1 e)
  simp [repIx, isSign, h1, h2, h3, h4, n1, n2, n3, n4]

theorem iaArr {b o c : Nat} (h : c < 256) {k : IntKind} : indexAddrA Tryz.prog 149 (.pointer (some ⟨b, o, none⟩)) (.int k (c : Int)) = some (.pointer (some ⟨b, o + c * 1, none⟩)) := by
  have hb : Nat.blt c 256 = true := by rw [Nat.blt_eq]; exact h
  simp only [indexAddrA, natV_cast, un149, sz34, hb, cond_true]

def zs (n : Nat) : List Value := rep [.int .u8 0] n
theorem zs_len (n : Nat) : (zs n).length = n := by unfold zs; rw [rep_length]; simp
theorem mk34 {nx n : Nat} (h : n ≤ 1000) : makeSliceA Tryz.prog nx 34 (.int .i64 (n : Int)) (.int .i64 (n : Int)) = some (.slice (some ⟨nx, 0, none⟩) n n, .cells (zs n) 5 1 0 false true) := by
  obtain ⟨i, hi, hz, hsz, hbt⟩ := info_of info5
  have a1 : Nat.ble n n = true := by rw [Nat.ble_eq]; exact Nat.le_refl _
  have a2 : Nat.ble (1 * n) 281474976710656 = true := by rw [Nat.ble_eq]; omega
  simp only [makeSliceA, un34, natV_cast, hi, hz, hsz, hbt, a1, a2]
  rfl
theorem sl34 {hp : Tr AObj} {nx j n : Nat} (h : j < n) (hn : n ≤ 1000) : sliceA Tryz.prog hp 34 (.slice (some ⟨nx, 0, none⟩) n n) (some (.int .i64 (j : Int))) none none = some (.slice (some ⟨nx, 0 + j * 1, none⟩) (n - j) (n - j)) := by
  have a1 : Nat.blt n OPEN = true := by rw [Nat.blt_eq]; unfold OPEN; omega
  have a2 : (Nat.ble j n && Nat.ble n n && Nat.ble n n) = true := by simp only [Bool.and_eq_true, Nat.ble_eq]; omega
  have a3 : Nat.beq n j = false := by
    cases hq : Nat.beq n j with
    | false => rfl
    | true => have := Nat.eq_of_beq_eq_true hq; omega
  simp only [sliceA, un34, sz5, a1, cond_true, boundsA, natV_cast, a2, a3, cond_false]
theorem cp34 {hp : Tr AObj} {nx j n c x e sz fz : Nat} {ro hd hd2 : Bool} {cs : List Value} (h : j + 2 ≤ n) (hl : cs.length = n) (hx : hp.get x = some (.cells [.int .u8 63, .int .u8 (c : Int)] e sz fz ro hd)) (hg : hp.get nx = some (.cells cs 5 1 0 false hd2)) :
    copyA Tryz.prog hp 34 (.slice (some ⟨nx, 0 + j * 1, none⟩) (n - j) (n - j)) (.slice (some ⟨x, 0, none⟩) 2 OPEN) = some (.int .i64 ((2 : Nat) : Int), hp.set nx (some (.cells (putL cs (0 + j * 1) [.int .u8 63, .int .u8 (c : Int)]) 5 1 0 false hd2))) := by
  have a1 : Nat.ble (1 + 1) (n - j) = true := by rw [Nat.ble_eq]; omega
  have a2 : (Nat.ble 0 (0 + j * 1) && Nat.ble (0 + j * 1 + 2) cs.length) = true := by simp only [Bool.and_eq_true, Nat.ble_eq]; omega
  have a3 : ldCells hp x 0 ((1 + 1) * 1) = some [.int .u8 63, .int .u8 (c : Int)] := by unfold ldCells; rw [hx]; rfl
  have a4 : stCells hp nx (0 + j * 1) [.int .u8 63, .int .u8 (c : Int)] = some (hp.set nx (some (.cells (putL cs (0 + j * 1) [.int .u8 63, .int .u8 (c : Int)]) 5 1 0 false hd2))) := by
    unfold stCells
    rw [hg]
    simp only [List.length_cons, List.length_nil, Nat.zero_add] at a2 ⊢
    rw [a2]; rfl
  unfold copyA
  simp only [un34, sz5, srcA, a3, a1, cond_true, a4]
  rfl

theorem put_two (a : List UInt8) (n : Nat) (c : UInt8) : putL (bv a ++ zs (n + 2)) (0 + a.length * 1) [.int .u8 63, .int .u8 (c.toNat : Int)] = bv (a ++ [63, c]) ++ zs n := by
  have hz : zs (n + 2) = .int .u8 0 :: .int .u8 0 :: zs n := rfl
  have hl : (bv a).length = a.length := bv_len a
  rw [hz, Nat.zero_add, Nat.mul_one]
  simp only [putL]
  have e1 : (bv a ++ .int .u8 0 :: .int .u8 0 :: zs n).set a.length (.int .u8 63) = (bv a ++ [.int .u8 63]) ++ .int .u8 0 :: zs n := by
    rw [List.set_append_right _ _ (by omega), hl, Nat.sub_self]; simp
  rw [e1, List.set_append_right _ _ (by simp [hl]), bv_app]
  simp [bv]
theorem put_one (a : List UInt8) (n : Nat) (c : UInt8) : (bv a ++ zs (n + 1)).set (0 + a.length * 1) (.int .u8 (c.toNat : Int)) = bv (a ++ [c]) ++ zs n := by
  have hz : zs (n + 1) = .int .u8 0 :: zs n := rfl
  have hl : (bv a).length = a.length := bv_len a
  rw [hz, Nat.zero_add, Nat.mul_one, List.set_append_right _ _ (by omega), hl, Nat.sub_self, bv_app]
  simp [bv]
theorem cv34 {hp : Tr AObj} {nx n : Nat} {l : List UInt8} (hn : n = l.length) (hg : hp.get nx = some (.cells (bv l ++ zs 0) 5 1 0 false true)) : convA Tryz.prog hp 34 9 (.slice (some ⟨nx, 0, none⟩) n n) = some (.string ⟨l.toArray⟩) := by
  subst hn
  have hz : bv l ++ zs 0 = bv l := List.append_nil _
  rw [hz] at hg
  simp only [convA, un34, un9, un5]
  cases l with
  | nil => rfl
  | cons c l =>
    have a1 : ldCells hp nx 0 (l.length + 1) = some (bv (c :: l)) := by
      unfold ldCells
      rw [hg]
      have : Nat.ble (0 + (l.length + 1)) (bv (c :: l)).length = true := by rw [Nat.ble_eq, bv_len]; simp
      simp only [this, cond_true, List.drop_zero]
      rw [List.take_of_length_le (by rw [bv_len]; simp)]
    simp only [List.length_cons, sliceStr, a1, bytesOf_bv]

theorem set_sub {hp : Tr AObj} {nx : Nat} {a b c : Option AObj} (h : b = c) : ∀ i o, (hp.set nx c).get i = some o → ((hp.set nx a).set nx b).get i = some o := by
  intro i o e
  subst h
  rw [Tr.get_set] at e ⊢
  split at e
  · rename_i q; rw [if_pos q]; exact e
  · rename_i q; rw [if_neg q, Tr.get_set_ne _ _ q]; exact e

theorem ag96 : aggT Tryz.prog 96 = some false := by kernel_rfl
theorem neS (b : Nat) : binA Tryz.prog .neq 34 false true (.slice (some ⟨b, 0, none⟩) 2 OPEN) (.slice none 0 0) = some (.bool true) := by kernel_rfl
theorem neN : binA Tryz.prog .neq 34 false true (.slice none 0 0) (.slice none 0 0) = some (.bool false) := by kernel_rfl

set_option maxHeartbeats 4000000 in
theorem brep_c {hp : Tr AObj} {nx q : Nat} {s : ByteArray} (hb : BRep hp q) (hs : s.size ≤ 20) (hf : Fr hp nx) :
    ACall Tryz.prog 0 133 [.pointer (some ⟨q, 0, none⟩), .string s] hp nx (fun v hp' nx' => v = .string ⟨(esc s.data.toList).toArray⟩ ∧ hp' = hp ∧ nx' = nx) := by
  refine ACall.pure (S := fun v hp' _ => v = .string ⟨(esc s.data.toList).toArray⟩ ∧ Sub hp hp') ?_ (fun v hp' nx' h => h) rfl
  obtain ⟨x, t, cs, e, sz, fz, ro, hd, hq, hlen, hcs, h256, hx⟩ := hb.big
  have hsl := size_list s
  refine acall_fn named7 Tryz.func133 rfl rfl ?_
  show AW _ _ _ _ ⟨tms [(1, .string s), (0, .pointer (some ⟨q, 0, none⟩))], hp, nx, []⟩ _
  refine aw_seq (aw_reg ?_)
  refine s_t (x_q (e_assign rfl) rfl ?_)
  refine s_nil ?_
  refine aw_seq (aw_reg ?_)
  refine s_t (x_q (e_move rfl) rfl ?_)
  refine s_t (x_q (e_len rfl (lenStr un9)) rfl ?_)
  refine s_t (x_q (e_assign rfl) rfl ?_)
  refine s_nil ?_
  refine aw_seq (aw_reg ?_)
  refine s_t (x_q (e_assign rfl) rfl ?_)
  refine s_nil ?_
  refine aw_seq (aw_seq (aw_reg ?_))
  refine s_t (x_q (e_move rfl) rfl ?_)
  refine s_t (x_q (e_nilP rfl) rfl ?_)
  refine s_t (x_q (e_fa rfl (fa151_1 _ _)) rfl ?_)
  refine s_t (x_q (e_load rfl (ld1 ag28 hq h256)) rfl ?_)
  refine s_t (x_q (e_len rfl (lenSl un28)) rfl ?_)
  refine s_t (x_q (e_bin rfl rfl (show _ = some (Value.int .i64 ((32 : Nat) : Int)) from rfl)) rfl ?_)
  refine s_t (x_q (e_move rfl) rfl ?_)
  refine s_t (x_q (e_len rfl (lenStr un9)) rfl ?_)
  refine s_t (x_q (e_bin rfl rfl (dF (by omega))) rfl ?_)
  refine s_nil ?_
  refine (aw_ifF rfl ?_)
  refine aw_seq (aw_reg ?_)
  refine s_t (x_q (e_assign rfl) rfl ?_)
  refine s_nil ?_
  refine aw_block (aw_loop (α := Nat × Bool) (fun y => ⟨tms [(0, .pointer (some ⟨q, 0, none⟩)), (1, .string s), (5, .int .i64 (((esc (s.data.toList.take y.1)).length + (s.size - y.1) : Nat) : Int)), (6, .bool y.2), (10, .int .i64 (y.1 : Int))], hp, nx, []⟩) (fun y => y.1 ≤ s.size ∧ (s.data.toList.take y.1).any isSign = y.2) (fun y => s.size - y.1) (0, false) ⟨Nat.zero_le _, rfl⟩ (wk_tms (wk_cons rfl (wk_cons rfl (wk_cons (congrArg (fun n : Nat => some (Value.int .i64 (n : Int))) (by simp [esc])) (wk_cons rfl (wk_cons rfl wk_nil))))) sub_rfl (Nat.le_refl _)) ?_)
  rintro ⟨k, any⟩ ⟨hk, hany⟩
  dsimp only at hk hany ⊢
  by_cases hlt : k < s.size
  · have hget := at_get hlt
    have hsn := take_snoc (d := 0) (l := s.data.toList) (k := k) (by omega)
    have hle : (esc (s.data.toList.take k)).length ≤ 2 * k := by have := (esc_le (s.data.toList.take k)).2; rw [List.length_take] at this; omega
    generalize s.data.toList.getD k 0 = c at *
    have hcl : c.toNat < 256 := c.toNat_lt
    have rg := hcs c.toNat hcl
    have rs := repIx_sign c
    refine aw_seq (aw_seq (aw_reg ?_))
    refine s_t (x_q (e_move rfl) rfl ?_)
    refine s_t (x_q (e_move rfl) rfl ?_)
    refine s_t (x_q (e_len rfl (lenStr un9)) rfl ?_)
    refine s_t (x_q (e_bin rfl rfl (dT (by omega))) rfl ?_)
    refine s_nil ?_
    refine (aw_ifT rfl (aw_skip ?_))
    refine aw_seq (aw_block ?_)
    refine aw_seq (aw_reg ?_)
    refine s_t (x_q (e_move rfl) rfl ?_)
    refine s_t (x_q (e_move rfl) rfl ?_)
    refine s_t (x_q (e_ix rfl rfl (ixStr un9 hget)) rfl ?_)
    refine s_t (x_q (e_assign rfl) rfl ?_)
    refine s_nil ?_
    cases hsg : isSign c with
    | true =>
      rw [hsg] at rs
      obtain ⟨b, hb⟩ := Option.isSome_iff_exists.1 rs
      have rg' : cs[0 + 0 + c.toNat * 1]? = some (.slice (some ⟨x b, 0, none⟩) 2 OPEN) := by
        rw [show 0 + 0 + c.toNat * 1 = c.toNat by omega, rg]; unfold repV; rw [hb]
      have hes : (esc (s.data.toList.take (k + 1))).length = (esc (s.data.toList.take k)).length + 2 := by rw [hsn, esc_snoc, hsg]; simp
      refine aw_seq (aw_reg ?_)
      refine s_t (x_q (e_move rfl) rfl ?_)
      refine s_t (x_q (e_move rfl) rfl ?_)
      refine s_t (x_q (e_nilP rfl) rfl ?_)
      refine s_t (x_q (e_fa rfl (fa151_0 _ _)) rfl ?_)
      refine s_t (x_q (e_ia rfl rfl (iaArr hcl)) rfl ?_)
      refine s_t (x_q (e_load rfl (ld1 ag34 hq rg')) rfl ?_)
      refine s_t (x_q (e_bin rfl rfl (neS _)) rfl ?_)
      refine s_nil ?_
      refine (aw_ifT rfl ?_)
      refine aw_seq (aw_reg ?_)
      refine s_t (x_q (e_move rfl) rfl ?_)
      refine s_t (x_q (e_move rfl) rfl ?_)
      refine s_t (x_q (e_move rfl) rfl ?_)
      refine s_t (x_q (e_nilP rfl) rfl ?_)
      refine s_t (x_q (e_fa rfl (fa151_0 _ _)) rfl ?_)
      refine s_t (x_q (e_ia rfl rfl (iaArr hcl)) rfl ?_)
      refine s_t (x_q (e_load rfl (ld1 ag34 hq rg')) rfl ?_)
      refine s_t (x_q (e_len rfl (lenSl un34)) rfl ?_)
      refine s_t (x_q (e_bin rfl rfl (b_subN 2 1 (by decide) (by decide))) rfl ?_)
      refine s_t (x_q (e_bin rfl rfl (b_addN _ (2 - 1) (by omega))) rfl ?_)
      refine s_t (x_q (e_assign rfl) rfl ?_)
      refine s_nil ?_
      refine aw_reg ?_
      refine s_t (x_q (e_assign rfl) rfl ?_)
      refine s_nil ?_
      refine aw_reg ?_
      refine s_t (x_q (e_move rfl) rfl ?_)
      refine s_t (x_q (e_bin rfl rfl (b_addN _ 1 (by omega))) rfl ?_)
      refine s_t (x_q (e_assign rfl) rfl ?_)
      refine s_nil ?_
      exact ⟨(k + 1, true), ⟨by show k + 1 ≤ s.size; omega, by show (s.data.toList.take (k + 1)).any isSign = true; rw [hsn]; simp [hsg]⟩, by show s.size - (k + 1) < s.size - k; omega, wk_tms (wk_cons rfl (wk_cons rfl (wk_cons (congrArg (fun n : Nat => some (Value.int .i64 (n : Int))) (by show _ = (esc (s.data.toList.take (k + 1))).length + (s.size - (k + 1)); omega)) (wk_cons rfl (wk_cons rfl wk_nil))))) sub_rfl (Nat.le_refl _)⟩
    | false =>
      rw [hsg] at rs
      have hb := Option.isSome_eq_false_iff.1 rs
      have rg' : cs[0 + 0 + c.toNat * 1]? = some (.slice none 0 0) := by
        rw [show 0 + 0 + c.toNat * 1 = c.toNat by omega, rg]; unfold repV; rw [Option.isNone_iff_eq_none.1 hb]
      have hes : (esc (s.data.toList.take (k + 1))).length = (esc (s.data.toList.take k)).length + 1 := by rw [hsn, esc_snoc, hsg]; simp
      refine aw_seq (aw_reg ?_)
      refine s_t (x_q (e_move rfl) rfl ?_)
      refine s_t (x_q (e_move rfl) rfl ?_)
      refine s_t (x_q (e_nilP rfl) rfl ?_)
      refine s_t (x_q (e_fa rfl (fa151_0 _ _)) rfl ?_)
      refine s_t (x_q (e_ia rfl rfl (iaArr hcl)) rfl ?_)
      refine s_t (x_q (e_load rfl (ld1 ag34 hq rg')) rfl ?_)
      refine s_t (x_q (e_bin rfl rfl neN) rfl ?_)
      refine s_nil ?_
      refine (aw_ifF rfl (aw_skip ?_))
      refine aw_reg ?_
      refine s_t (x_q (e_move rfl) rfl ?_)
      refine s_t (x_q (e_bin rfl rfl (b_addN _ 1 (by omega))) rfl ?_)
      refine s_t (x_q (e_assign rfl) rfl ?_)
      refine s_nil ?_
      exact ⟨(k + 1, any), ⟨by show k + 1 ≤ s.size; omega, by show (s.data.toList.take (k + 1)).any isSign = any; rw [hsn]; simp [hsg, hany]⟩, by show s.size - (k + 1) < s.size - k; omega, wk_tms (wk_cons rfl (wk_cons rfl (wk_cons (congrArg (fun n : Nat => some (Value.int .i64 (n : Int))) (by show _ = (esc (s.data.toList.take (k + 1))).length + (s.size - (k + 1)); omega)) (wk_cons rfl (wk_cons rfl wk_nil))))) sub_rfl (Nat.le_refl _)⟩
  refine aw_seq (aw_seq (aw_reg ?_))
  refine s_t (x_q (e_move rfl) rfl ?_)
  refine s_t (x_q (e_move rfl) rfl ?_)
  refine s_t (x_q (e_len rfl (lenStr un9)) rfl ?_)
  refine s_t (x_q (e_bin rfl rfl (dF (by omega))) rfl ?_)
  refine s_nil ?_
  refine (aw_ifF rfl (aw_exit ?_))
  have hall : s.data.toList.take k = s.data.toList := List.take_of_length_le (by omega)
  have hesl := (esc_le s.data.toList).2
  rw [hall] at hany
  cases any with
  | false =>
    refine aw_seq (aw_seq (aw_reg ?_))
    refine s_t (x_q (e_move rfl) rfl ?_)
    refine s_t (x_q (e_un rfl rfl) rfl ?_)
    refine s_nil ?_
    refine (aw_ifT rfl ?_)
    refine aw_seq (aw_reg ?_)
    refine s_t (x_q (e_move rfl) rfl ?_)
    refine s_t (x_q (e_assign rfl) rfl ?_)
    refine s_nil ?_
    refine aw_ret (fn_ret rfl ⟨?_, fun _ _ h => h⟩)
    rw [esc_none hany]
    rfl
  | true =>
    have hN : (esc (s.data.toList.take k)).length + (s.size - k) = (esc s.data.toList).length := by rw [hall]; omega
    generalize hNN : (esc (s.data.toList.take k)).length + (s.size - k) = N at *
    have hN2 : N ≤ 1000 := by omega
    refine aw_seq (aw_seq (aw_reg ?_))
    refine s_t (x_q (e_move rfl) rfl ?_)
    refine s_t (x_q (e_un rfl rfl) rfl ?_)
    refine s_nil ?_
    refine (aw_ifF rfl (aw_skip ?_))
    refine aw_seq (aw_reg ?_)
    refine s_t (x_q (e_move rfl) rfl ?_)
    refine s_t (x_make rfl rfl (mk34 hN2) rfl ?_)
    refine s_t (x_q (e_assign rfl) rfl ?_)
    refine s_nil ?_
    refine aw_seq (aw_reg ?_)
    refine s_t (x_q (e_assign rfl) rfl ?_)
    refine s_nil ?_
    refine aw_seq (aw_seq (aw_reg ?_))
    refine s_t (x_q (e_assign rfl) rfl ?_)
    refine s_nil ?_
    refine aw_block (aw_loop (α := Nat) (fun y => ⟨tms [(0, .pointer (some ⟨q, 0, none⟩)), (1, .string s), (12, .slice (some ⟨nx, 0, none⟩) N N), (13, .int .i64 ((esc (s.data.toList.take y)).length : Int)), (14, .int .i64 (y : Int))], hp.set nx (some (.cells (bv (esc (s.data.toList.take y)) ++ zs (N - (esc (s.data.toList.take y)).length)) 5 1 0 false true)), nx + 1, []⟩) (fun y => y ≤ s.size) (fun y => s.size - y) 0 (Nat.zero_le _) (wk_tms (wk_cons rfl (wk_cons rfl (wk_cons rfl (wk_cons rfl (wk_cons rfl wk_nil))))) sub_rfl (Nat.le_refl _)) ?_)
    clear hNN hany hlt hall hk k
    intro k hk
    by_cases hlt : k < s.size
    · have hget := at_get hlt
      have hsn := take_snoc (d := 0) (l := s.data.toList) (k := k) (by omega)
      have hroom := esc_room (l := s.data.toList) (k := k + 1)
      generalize s.data.toList.getD k 0 = c at *
      have hcl : c.toNat < 256 := c.toNat_lt
      have rg := hcs c.toNat hcl
      have rs := repIx_sign c
      generalize hE : esc (s.data.toList.take k) = E at *
      generalize hh : hp.set nx _ = h1
      have hg1 : h1.get nx = some (.cells (bv E ++ zs (N - E.length)) 5 1 0 false true) := by rw [← hh]; exact Tr.get_set_same _ _ _
      have ho1 : ∀ i o, hp.get i = some o → h1.get i = some o := fun i o h => by rw [← hh]; exact hf.sub _ i o h
      have hq1 := ho1 _ _ hq
      refine aw_seq (aw_seq (aw_reg ?_))
      refine s_t (x_q (e_move rfl) rfl ?_)
      refine s_t (x_q (e_move rfl) rfl ?_)
      refine s_t (x_q (e_len rfl (lenStr un9)) rfl ?_)
      refine s_t (x_q (e_bin rfl rfl (dT (by omega))) rfl ?_)
      refine s_nil ?_
      refine (aw_ifT rfl (aw_skip ?_))
      refine aw_seq (aw_block ?_)
      refine aw_seq (aw_reg ?_)
      refine s_t (x_q (e_move rfl) rfl ?_)
      refine s_t (x_q (e_move rfl) rfl ?_)
      refine s_t (x_q (e_ix rfl rfl (ixStr un9 hget)) rfl ?_)
      refine s_t (x_q (e_assign rfl) rfl ?_)
      refine s_nil ?_
      cases hsg : isSign c with
      | true =>
        rw [hsg] at rs
        obtain ⟨b, hb⟩ := Option.isSome_iff_exists.1 rs
        have rg' : cs[0 + 0 + c.toNat * 1]? = some (.slice (some ⟨x b, 0, none⟩) 2 OPEN) := by
          rw [show 0 + 0 + c.toNat * 1 = c.toNat by omega, rg]; unfold repV; rw [hb]
        obtain ⟨e2, sz2, fz2, ro2, hd2, hxb⟩ := hx c.toNat b hb
        have hes : esc (s.data.toList.take (k + 1)) = E ++ [63, c] := by rw [hsn, esc_snoc, hsg, hE]; simp
        have hel : (esc (s.data.toList.take (k + 1))).length = E.length + 2 := by rw [hes]; simp
        obtain ⟨m, hm⟩ : ∃ m, N - E.length = m + 2 := ⟨N - E.length - 2, by omega⟩
        refine aw_seq (aw_reg ?_)
        refine s_t (x_q (e_move rfl) rfl ?_)
        refine s_t (x_q (e_move rfl) rfl ?_)
        refine s_t (x_q (e_nilP rfl) rfl ?_)
        refine s_t (x_q (e_fa rfl (fa151_0 _ _)) rfl ?_)
        refine s_t (x_q (e_ia rfl rfl (iaArr hcl)) rfl ?_)
        refine s_t (x_q (e_load rfl (ld1 ag34 hq1 rg')) rfl ?_)
        refine s_t (x_q (e_bin rfl rfl (neS _)) rfl ?_)
        refine s_nil ?_
        refine (aw_ifT rfl ?_)
        refine aw_any mixed7 [(0, true), (1, true), (2, true), (3, true), (4, true), (5, true), (6, true), (7, true), (8, true), (9, true), (10, false), (11, true), (12, true)] (by kernel_rfl) (by kernel_rfl) (by kernel_rfl) ?_
        refine a_q rfl (e_move rfl) rfl ?_
        refine a_q rfl (e_move rfl) rfl ?_
        refine a_q rfl (e_move rfl) rfl ?_
        refine a_q rfl (e_slice rfl rfl rfl rfl (sl34 (j := E.length) (by omega) hN2)) rfl ?_
        refine a_q rfl (e_move rfl) rfl ?_
        refine a_q rfl (e_move rfl) rfl ?_
        refine a_q rfl (e_nilP rfl) rfl ?_
        refine a_q rfl (e_fa rfl (fa151_0 _ _)) rfl ?_
        refine a_q rfl (e_ia rfl rfl (iaArr hcl)) rfl ?_
        refine a_q rfl (e_load rfl (ld1 ag34 hq1 rg')) rfl ?_
        refine a_r rfl (x_copyd rfl rfl (cp34 (by omega) (by rw [List.length_append, bv_len, zs_len]; omega) (ho1 _ _ hxb) hg1) rfl ?_)
        refine a_q rfl (e_bin rfl rfl (b_addN E.length 2 (by omega))) rfl ?_
        refine a_q rfl (e_assign rfl) rfl ?_
        refine aw_reg ?_
        refine s_t (x_q (e_move rfl) rfl ?_)
        refine s_t (x_q (e_bin rfl rfl (b_addN _ 1 (by omega))) rfl ?_)
        refine s_t (x_q (e_assign rfl) rfl ?_)
        refine s_nil ?_
        refine ⟨k + 1, by omega, by omega, wk_tms (wk_cons rfl (wk_cons rfl (wk_cons rfl (wk_cons (congrArg (fun n : Nat => some (Value.int .i64 (n : Int))) hel.symm) (wk_cons rfl wk_nil))))) ?_ (Nat.le_refl _)⟩
        rw [← hh]
        refine set_sub ?_
        rw [hes, hm, put_two, List.length_append]
        have : N - (E.length + [63, c].length) = m := by simp; omega
        rw [this]
      | false =>
        rw [hsg] at rs
        have hb := Option.isSome_eq_false_iff.1 rs
        have rg' : cs[0 + 0 + c.toNat * 1]? = some (.slice none 0 0) := by
          rw [show 0 + 0 + c.toNat * 1 = c.toNat by omega, rg]; unfold repV; rw [Option.isNone_iff_eq_none.1 hb]
        have hes : esc (s.data.toList.take (k + 1)) = E ++ [c] := by rw [hsn, esc_snoc, hsg, hE]; simp
        have hel : (esc (s.data.toList.take (k + 1))).length = E.length + 1 := by rw [hes]; simp
        obtain ⟨m, hm⟩ : ∃ m, N - E.length = m + 1 := ⟨N - E.length - 1, by omega⟩
        have hbl : Nat.blt (0 + E.length * 1) (bv E ++ zs (N - E.length)).length = true := by rw [Nat.blt_eq, List.length_append, bv_len, zs_len]; omega
        refine aw_seq (aw_reg ?_)
        refine s_t (x_q (e_move rfl) rfl ?_)
        refine s_t (x_q (e_move rfl) rfl ?_)
        refine s_t (x_q (e_nilP rfl) rfl ?_)
        refine s_t (x_q (e_fa rfl (fa151_0 _ _)) rfl ?_)
        refine s_t (x_q (e_ia rfl rfl (iaArr hcl)) rfl ?_)
        refine s_t (x_q (e_load rfl (ld1 ag34 hq1 rg')) rfl ?_)
        refine s_t (x_q (e_bin rfl rfl neN) rfl ?_)
        refine s_nil ?_
        refine (aw_ifF rfl ?_)
        refine aw_seq (aw_reg ?_)
        refine s_t (x_q (e_move rfl) rfl ?_)
        refine s_t (x_q (e_move rfl) rfl ?_)
        refine s_t (x_q (e_move rfl) rfl ?_)
        refine s_t (x_q (e_ia rfl rfl (iaSl un34 sz5 (i := E.length) (by omega))) rfl ?_)
        refine s_t (x_store rfl rfl (st1v sz5 rfl rfl hg1 rfl hbl) ?_)
        refine s_nil ?_
        refine aw_reg ?_
        refine s_t (x_q (e_move rfl) rfl ?_)
        refine s_t (x_q (e_bin rfl rfl (b_addN _ 1 (by omega))) rfl ?_)
        refine s_t (x_q (e_assign rfl) rfl ?_)
        refine s_nil ?_
        refine aw_reg ?_
        refine s_t (x_q (e_move rfl) rfl ?_)
        refine s_t (x_q (e_bin rfl rfl (b_addN _ 1 (by omega))) rfl ?_)
        refine s_t (x_q (e_assign rfl) rfl ?_)
        refine s_nil ?_
        refine ⟨k + 1, by omega, by omega, wk_tms (wk_cons rfl (wk_cons rfl (wk_cons rfl (wk_cons (congrArg (fun n : Nat => some (Value.int .i64 (n : Int))) hel.symm) (wk_cons rfl wk_nil))))) ?_ (Nat.le_refl _)⟩
        rw [← hh]
        refine set_sub ?_
        rw [hes, hm, put_one, List.length_append]
        have : N - (E.length + [c].length) = m := by simp; omega
        rw [this]
    have hall : s.data.toList.take k = s.data.toList := List.take_of_length_le (by omega)
    rw [hall, show N - (esc s.data.toList).length = 0 by omega]
    refine aw_seq (aw_seq (aw_reg ?_))
    refine s_t (x_q (e_move rfl) rfl ?_)
    refine s_t (x_q (e_move rfl) rfl ?_)
    refine s_t (x_q (e_len rfl (lenStr un9)) rfl ?_)
    refine s_t (x_q (e_bin rfl rfl (dF (by omega))) rfl ?_)
    refine s_nil ?_
    refine (aw_ifF rfl (aw_exit ?_))
    refine aw_seq (aw_reg ?_)
    refine s_t (x_q (e_move rfl) rfl ?_)
    refine s_t (x_q (e_conv rfl (by kernel_rfl) (cv34 hN (Tr.get_set_same _ _ _))) rfl ?_)
    refine s_t (x_q (e_assign rfl) rfl ?_)
    refine s_nil ?_
    exact aw_ret (fn_ret rfl ⟨rfl, hf.sub _⟩)

theorem meth152 (v : Value) : methodA Tryz.prog 152 v "Replace" = some (133, v) := by kernel_rfl

theorem replace_c {hp : Tr AObj} {nx r : Nat} {A : Nat → Prop} {s : ByteArray} (h : Rep hp nx r A) (hA : ∀ j, A j → j < nx) (hs : s.size ≤ 20) (hf : Fr hp nx) :
    ACall Tryz.prog 0 24 [.pointer (some ⟨r, 0, none⟩), .string s] hp nx (fun v hp' nx' => v = .string ⟨(esc s.data.toList).toArray⟩ ∧ nx ≤ nx' ∧ Fr hp' nx' ∧ Rep hp' nx' r A ∧ ∀ j, A j → hp'.get j = hp.get j) := by
  refine acall_fn named7 Tryz.func24 rfl rfl ?_
  show AW _ _ _ _ ⟨tms [(1, .string s), (0, .pointer (some ⟨r, 0, none⟩))], hp, nx, []⟩ _
  refine aw_seq (aw_reg ?_)
  refine s_t (x_q (e_assign rfl) rfl ?_)
  refine s_nil ?_
  refine aw_seq (aw_reg ?_)
  refine s_t (x_q (e_move rfl) rfl ?_)
  refine s_t (x_q (e_nilP rfl) rfl ?_)
  refine s_t (x_q (e_fa rfl (fa98_0 _ _)) rfl ?_)
  refine s_t (x_q (e_move rfl) rfl ?_)
  refine s_t (x_q (e_mkfn rfl rfl) rfl ?_)
  refine s_t (x_call rfl rfl rfl (once_c h hA hf) ?_)
  rintro _ h1 n1 ⟨k1, k2, ⟨ρ, k3, k4⟩, k5⟩
  refine s_nil ?_
  obtain ⟨⟨e, sz, fz, ro, hd, hg⟩, hbr⟩ := k4.brep
  rw [k3] at hg
  refine aw_seq (aw_reg ?_)
  refine s_t (x_q (e_move rfl) rfl ?_)
  refine s_t (x_q (e_nilP rfl) rfl ?_)
  refine s_t (x_q (e_fa rfl (fa98_1 _ _)) rfl ?_)
  refine s_t (x_q (e_load rfl (ld1 ag96 hg rfl)) rfl ?_)
  refine s_t (x_q (e_move rfl) rfl ?_)
  refine s_t (x_inv rfl (meth152 _) rfl rfl (brep_c hbr hs k2) ?_)
  rintro _ h2 n2 ⟨rfl, e1, e2⟩
  subst e1 e2
  refine s_t (x_q (e_assign rfl) rfl ?_)
  refine s_nil ?_
  exact aw_ret (fn_ret rfl ⟨rfl, k1, k2, ⟨ρ, k3, .inr k4⟩, k5⟩)
end Go.Proofs.YtkjkoejnicbieaaGreat.AM

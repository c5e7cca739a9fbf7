/-
  The message's functions, walked: the library's Builder.
-/
import Derived.Test.YtkjkoejnicbieaaGreatAmP6
namespace Go.Proofs.YtkjkoejnicbieaaGreat.AM
open Go Go.RowKit

/-- A Builder that holds a text. -/
structure Bld (hp : Tr AObj) (nx b : Nat) (l : List UInt8) (ob : Option Nat) (adr : Value) : Prop where
  get : hp.get b = some (.cells [adr, ownV ob l.length] 50 2 0 false true)
  ad : adr = .pointer none ∨ adr = .pointer (some ⟨b, 0, none⟩)
  own : OwnB hp nx ob l
  ne : ob ≠ some b
  lt : b < nx

/-- What a Builder's method leaves alone. -/
structure BG (hp : Tr AObj) (nx b : Nat) (ob : Option Nat) (hp' : Tr AObj) (nx' : Nat) (ob' : Option Nat) : Prop where
  le : nx ≤ nx'
  fr : Fr hp nx → Fr hp' nx'
  frame : ∀ i, i < nx → i ≠ b → ob ≠ some i → hp'.get i = hp.get i
  ob : ∀ x, ob' = some x → ob = some x ∨ nx ≤ x

theorem BG.refl (hp : Tr AObj) (nx b : Nat) (ob : Option Nat) : BG hp nx b ob hp nx ob := ⟨Nat.le_refl _, id, fun _ _ _ _ => rfl, fun _ h => .inl h⟩
theorem BG.trans {h1 h2 h3 : Tr AObj} {n1 n2 n3 b : Nat} {o1 o2 o3 : Option Nat} (a : BG h1 n1 b o1 h2 n2 o2) (c : BG h2 n2 b o2 h3 n3 o3) : BG h1 n1 b o1 h3 n3 o3 := by
  refine ⟨Nat.le_trans a.le c.le, fun h => c.fr (a.fr h), fun i hi hb ho => ?_, fun x hx => ?_⟩
  · rw [c.frame i (Nat.lt_of_lt_of_le hi a.le) hb fun h => ?_, a.frame i hi hb ho]
    rcases a.ob i h with h | h
    · exact ho h
    · omega
  · rcases c.ob x hx with h | h
    · rcases a.ob x h with h | h
      · exact .inl h
      · exact .inr h
    · exact .inr (Nat.le_trans a.le h)

theorem bin48n : binA Tryz.prog .eql 48 false true (.pointer none) (.pointer none) = some (.bool true) := by kernel_rfl
theorem bin48s (b : Nat) : binA Tryz.prog .eql 48 false true (.pointer (some ⟨b, 0, none⟩)) (.pointer none) = some (.bool false) := by kernel_rfl
theorem bin48q (b : Nat) : binA Tryz.prog .neq 48 false false (.pointer (some ⟨b, 0, none⟩)) (.pointer (some ⟨b, 0, none⟩)) = some (.bool false) := by
  have h : Nat.beq b b = true := Nat.beq_refl b
  simp only [binA, guardOk, cond_true, eqTop, un48, sz50, h, eqOp, Nat.beq_refl, Option.map_some, Bool.not_true]
theorem cvU {hp : Tr AObj} {b : Nat} {x : Value} {c : List Value} {e sz fz : Nat} {ro hd : Bool} (h : hp.get b = some (.cells (x :: c) e sz fz ro hd)) : convA Tryz.prog hp 48 126 (.pointer (some ⟨b, 0, none⟩)) = some (.pointer (some ⟨b, 0, none⟩)) := by
  have hu : Tryz.prog.underlying 126 = some .unsafePointer := by kernel_rfl
  simp only [convA, un48, hu, ldCell, h, List.getElem?_cons_zero, sz50]
theorem cvV {hp : Tr AObj} {b : Nat} {x y : Value} {sz fz : Nat} {ro : Bool} (h : hp.get b = some (.cells [x, y] 50 sz fz ro true)) : convA Tryz.prog hp 126 48 (.pointer (some ⟨b, 0, none⟩)) = some (.pointer (some ⟨b, 0, none⟩)) := by
  have hu : Tryz.prog.underlying 126 = some .unsafePointer := by kernel_rfl
  simp only [convA, un48, hu, headAt, h, sz50]
  rfl

theorem noesc_c {hp : Tr AObj} {nx : Nat} (v : Value) : ACall Tryz.prog 0 54 [v] hp nx (fun v' hp' nx' => v' = v ∧ hp' = hp ∧ nx' = nx) :=
  (ACall.of_cf xf7_sound (f := 54) (l := [v]) (hp := hp) (nx := nx) (outs := [⟨some v, hp, nx⟩]) rfl).mono fun v' hp' nx' h => by
    have := List.mem_singleton.1 h
    injection this with h1 h2 h3
    exact ⟨Option.some.inj h1, h2, h3⟩

theorem check_c {hp : Tr AObj} {nx b : Nat} {adr buf : Value} (hg : hp.get b = some (.cells [adr, buf] 50 2 0 false true)) (had : adr = .pointer none ∨ adr = .pointer (some ⟨b, 0, none⟩)) (hb : b < nx) :
    ACall Tryz.prog 0 40 [.pointer (some ⟨b, 0, none⟩)] hp nx (fun _ hp' nx' => hp'.get b = some (.cells [.pointer (some ⟨b, 0, none⟩), buf] 50 2 0 false true) ∧ (∀ i, i ≠ b → hp'.get i = hp.get i) ∧ (Fr hp nx → Fr hp' nx) ∧ nx' = nx) := by
  refine acall_fn named7 Tryz.func40 rfl rfl ?_
  show AW _ _ _ _ ⟨tms [(0, .pointer (some ⟨b, 0, none⟩))], hp, nx, []⟩ _
  rcases had with rfl | rfl
  · refine aw_seq (aw_reg ?_)
    refine s_t (x_q (e_move rfl) rfl ?_)
    refine s_t (x_q (e_nilP rfl) rfl ?_)
    refine s_t (x_q (e_fa rfl (fa50_0 _ _)) rfl ?_)
    refine s_t (x_q (e_load rfl (ld1 ag48 hg rfl)) rfl ?_)
    refine s_t (x_q (e_bin rfl rfl bin48n) rfl ?_)
    refine s_nil ?_
    refine (aw_ifT rfl ?_)
    refine aw_reg ?_
    refine s_t (x_q (e_move rfl) rfl ?_)
    refine s_t (x_q (e_move rfl) rfl ?_)
    refine s_t (x_q (e_conv rfl (by kernel_rfl) (cvU hg)) rfl ?_)
    refine s_t (x_pure rfl rfl rfl (noesc_c _) ?_)
    refine s_t (x_q (e_conv rfl (by kernel_rfl) (cvV hg)) rfl ?_)
    refine s_t (x_q (e_nilP rfl) rfl ?_)
    refine s_t (x_q (e_fa rfl (fa50_0 _ _)) rfl ?_)
    refine s_t (x_store rfl rfl (st1 sz48 rfl hg rfl rfl rfl rfl) ?_)
    refine s_nil ?_
    exact fn_end rfl ⟨Tr.get_set_same _ _ _, fun i hi => Tr.get_set_ne _ _ hi, fun h => h.set hb _, rfl⟩
  · refine aw_seq (aw_reg ?_)
    refine s_t (x_q (e_move rfl) rfl ?_)
    refine s_t (x_q (e_nilP rfl) rfl ?_)
    refine s_t (x_q (e_fa rfl (fa50_0 _ _)) rfl ?_)
    refine s_t (x_q (e_load rfl (ld1 ag48 hg rfl)) rfl ?_)
    refine s_t (x_q (e_bin rfl rfl (bin48s _)) rfl ?_)
    refine s_nil ?_
    refine (aw_ifF rfl ?_)
    refine aw_seq (aw_reg ?_)
    refine s_t (x_q (e_move rfl) rfl ?_)
    refine s_t (x_q (e_nilP rfl) rfl ?_)
    refine s_t (x_q (e_fa rfl (fa50_0 _ _)) rfl ?_)
    refine s_t (x_q (e_load rfl (ld1 ag48 hg rfl)) rfl ?_)
    refine s_t (x_q (e_move rfl) rfl ?_)
    refine s_t (x_q (e_bin rfl rfl (bin48q _)) rfl ?_)
    refine s_nil ?_
    refine (aw_ifF rfl (aw_skip ?_))
    exact fn_end rfl ⟨hg, fun i hi => rfl, id, rfl⟩

theorem grow_bg {hp h1 h2 h3 : Tr AObj} {nx n2 b : Nat} {ob ob2 : Option Nat} {adr buf : Value} (hlt : b < nx) (hne : ob ≠ some b) (f1 : ∀ i, i ≠ b → h1.get i = hp.get i) (fr1 : Fr hp nx → Fr h1 nx) (g : Gr h1 nx ob h2 n2 ob2) (e : h3 = h2.set b (some (.cells [adr, buf] 50 2 0 false true))) : BG hp nx b ob h3 n2 ob2 := by
  subst e
  refine ⟨g.le, fun h => (g.fr (fr1 h)).set (Nat.lt_of_lt_of_le hlt g.le) _, fun i hi hb ho => ?_, g.ob⟩
  rw [Tr.get_set_ne _ _ hb, g.frame i hi ho, f1 i hb]

theorem wbyte_c {hp : Tr AObj} {nx b : Nat} {l : List UInt8} {ob : Option Nat} {adr : Value} (h : Bld hp nx b l ob adr) (c : UInt8) (hl : l.length + 1 ≤ 140737488355328) :
    ACall Tryz.prog 0 23 [.pointer (some ⟨b, 0, none⟩), .int .u8 (c.toNat : Int)] hp nx (fun _ hp' nx' => ∃ ob', Bld hp' nx' b (l ++ [c]) ob' (.pointer (some ⟨b, 0, none⟩)) ∧ BG hp nx b ob hp' nx' ob') := by
  refine acall_fn named7 Tryz.func23 rfl rfl ?_
  show AW _ _ _ _ ⟨tms [(1, .int .u8 (c.toNat : Int)), (0, .pointer (some ⟨b, 0, none⟩))], hp, nx, []⟩ _
  obtain ⟨hg, had, hown, hne, hlt⟩ := h
  refine aw_seq (aw_reg ?_)
  refine s_t (x_q (e_assign rfl) rfl ?_)
  refine s_nil ?_
  refine aw_seq (aw_reg ?_)
  refine s_t (x_q (e_move rfl) rfl ?_)
  refine s_t (x_call rfl rfl rfl (check_c hg had hlt) ?_)
  rintro _ h1 n1 ⟨k1, k2, k3, e1⟩
  obtain rfl : nx = n1 := e1.symm
  refine s_nil ?_
  have hown1 : OwnB h1 nx ob l := hown.keep (fun x hx => k2 x (fun e => hne (by rw [hx, e]))) (Nat.le_refl _)
  obtain ⟨ob2, h2, n2, happ, hown2, hgr⟩ := appByte hown1 c hl
  have hne2 : ob2 ≠ some b := fun e => by
    rcases hgr.ob b e with h | h
    · exact hne h
    · omega
  have g2 : h2.get b = some (.cells [.pointer (some ⟨b, 0, none⟩), ownV ob l.length] 50 2 0 false true) := by rw [hgr.frame b hlt hne, k1]
  refine aw_seq (aw_reg ?_)
  refine s_t (x_q (e_move rfl) rfl ?_)
  refine s_t (x_q (e_move rfl) rfl ?_)
  refine s_t (x_q (e_nilP rfl) rfl ?_)
  refine s_t (x_q (e_fa rfl (fa50_1 _ _)) rfl ?_)
  refine s_t (x_q (e_load rfl (ld1 ag34 k1 rfl)) rfl ?_)
  refine s_t (x_q (e_move rfl) rfl ?_)
  refine s_t (x_bs rfl (bs34 _ _) rfl ?_)
  refine s_t (x_app rfl rfl happ rfl ?_)
  refine s_t (x_q (e_nilP rfl) rfl ?_)
  refine s_t (x_q (e_fa rfl (fa50_1 _ _)) rfl ?_)
  refine s_t (x_store rfl rfl (st1v sz34 (ownV_cells _ _) (ownV_one _ _) g2 rfl rfl) ?_)
  refine s_nil ?_
  refine aw_seq (aw_reg ?_)
  refine s_t (x_q (e_assign rfl) rfl ?_)
  refine s_nil ?_
  refine aw_ret (fn_ret rfl ⟨ob2, ⟨Tr.get_set_same _ _ _, .inr rfl, ?_, hne2, Nat.lt_of_lt_of_le hlt hgr.le⟩, grow_bg hlt hne k2 k3 hgr rfl⟩)
  exact hown2.keep (fun x hx => Tr.get_set_ne _ _ (fun e => hne2 (by rw [hx, e]))) (Nat.le_refl _)

theorem wstr_c {hp : Tr AObj} {nx b : Nat} {l : List UInt8} {ob : Option Nat} {adr : Value} (h : Bld hp nx b l ob adr) (s : ByteArray) (hl : l.length + s.size ≤ 140737488355328) :
    ACall Tryz.prog 0 20 [.pointer (some ⟨b, 0, none⟩), .string s] hp nx (fun _ hp' nx' => ∃ ob', Bld hp' nx' b (l ++ s.data.toList) ob' (.pointer (some ⟨b, 0, none⟩)) ∧ BG hp nx b ob hp' nx' ob') := by
  refine acall_fn named7 Tryz.func20 rfl rfl ?_
  show AW _ _ _ _ ⟨tms [(1, .string s), (0, .pointer (some ⟨b, 0, none⟩))], hp, nx, []⟩ _
  obtain ⟨hg, had, hown, hne, hlt⟩ := h
  refine aw_seq (aw_reg ?_)
  refine s_t (x_q (e_assign rfl) rfl ?_)
  refine s_t (x_q (e_assign rfl) rfl ?_)
  refine s_nil ?_
  refine aw_seq (aw_reg ?_)
  refine s_t (x_q (e_move rfl) rfl ?_)
  refine s_t (x_call rfl rfl rfl (check_c hg had hlt) ?_)
  rintro _ h1 n1 ⟨k1, k2, k3, e1⟩
  obtain rfl : nx = n1 := e1.symm
  refine s_nil ?_
  have hown1 : OwnB h1 nx ob l := hown.keep (fun x hx => k2 x (fun e => hne (by rw [hx, e]))) (Nat.le_refl _)
  obtain ⟨ob2, h2, n2, happ, hown2, hgr⟩ := appStr hown1 s hl
  have hne2 : ob2 ≠ some b := fun e => by
    rcases hgr.ob b e with h | h
    · exact hne h
    · omega
  have g2 : h2.get b = some (.cells [.pointer (some ⟨b, 0, none⟩), ownV ob l.length] 50 2 0 false true) := by rw [hgr.frame b hlt hne, k1]
  refine aw_seq (aw_reg ?_)
  refine s_t (x_q (e_move rfl) rfl ?_)
  refine s_t (x_q (e_move rfl) rfl ?_)
  refine s_t (x_q (e_nilP rfl) rfl ?_)
  refine s_t (x_q (e_fa rfl (fa50_1 _ _)) rfl ?_)
  refine s_t (x_q (e_load rfl (ld1 ag34 k1 rfl)) rfl ?_)
  refine s_t (x_q (e_move rfl) rfl ?_)
  refine s_t (x_app rfl rfl happ rfl ?_)
  refine s_t (x_q (e_nilP rfl) rfl ?_)
  refine s_t (x_q (e_fa rfl (fa50_1 _ _)) rfl ?_)
  refine s_t (x_store rfl rfl (st1v sz34 (ownV_cells _ _) (ownV_one _ _) g2 rfl rfl) ?_)
  refine s_nil ?_
  refine aw_seq (aw_reg ?_)
  refine s_t (x_q (e_move rfl) rfl ?_)
  refine s_t (x_q (e_len rfl (lenStr un9)) rfl ?_)
  refine s_t (x_q (e_assign rfl) rfl ?_)
  refine s_t (x_q (e_assign rfl) rfl ?_)
  refine s_nil ?_
  refine aw_ret (fn_ret rfl ⟨ob2, ⟨Tr.get_set_same _ _ _, .inr rfl, ?_, hne2, Nat.lt_of_lt_of_le hlt hgr.le⟩, grow_bg hlt hne k2 k3 hgr rfl⟩)
  exact hown2.keep (fun x hx => Tr.get_set_ne _ _ (fun e => hne2 (by rw [hx, e]))) (Nat.le_refl _)

theorem str0 (hp : Tr AObj) : strA Tryz.prog hp 100 (.pointer none) (.int .i64 ((0 : Nat) : Int)) = some (.string ⟨#[]⟩, hp) := by rfl
theorem strN {hp : Tr AObj} {b : Nat} {l : List UInt8} (hg : hp.get b = some (.cells (bv l) 5 1 0 false true)) (h0 : 0 < l.length) (hl : l.length ≤ 140737488355328) : strA Tryz.prog hp 100 (.pointer (some ⟨b, 0, none⟩)) (.int .i64 (l.length : Int)) = some (.string ⟨l.toArray⟩, hp.set b (some (.cells (bv l) 5 1 l.length false true))) := by
  obtain ⟨m, hm⟩ : ∃ m, l.length = m + 1 := ⟨l.length - 1, by omega⟩
  have c1 : (Nat.beq 5 5 && Nat.ble (0 + (m + 1)) (bv l).length && Nat.blt m 4611686018427387904) = true := by
    have a1 : Nat.ble (0 + (m + 1)) (bv l).length = true := by rw [Nat.ble_eq, bv_len]; omega
    have a2 : Nat.blt m 4611686018427387904 = true := by rw [Nat.blt_eq]; omega
    rw [a1, a2]; rfl
  have e1 : ((bv l).drop 0).take (m + 1) = bv l := by rw [List.drop_zero]; exact List.take_of_length_le (by rw [bv_len]; omega)
  have e2 : max 0 (0 + (m + 1)) = m + 1 := by omega
  rw [hm]
  simp only [strA, natV_cast, un100, sz5, hg, c1, cond_true, e1, bytesOf_bv, e2]

theorem bstr_c {hp : Tr AObj} {nx b : Nat} {l : List UInt8} {ob : Option Nat} {adr : Value} (h : Bld hp nx b l ob adr) (hl : l.length ≤ 140737488355328) :
    ACall Tryz.prog 0 25 [.pointer (some ⟨b, 0, none⟩)] hp nx (fun v hp' nx' => v = .string ⟨l.toArray⟩ ∧ (∀ i, ob ≠ some i → hp'.get i = hp.get i) ∧ (Fr hp nx → Fr hp' nx) ∧ nx' = nx) := by
  refine acall_fn named7 Tryz.func25 rfl rfl ?_
  show AW _ _ _ _ ⟨tms [(0, .pointer (some ⟨b, 0, none⟩))], hp, nx, []⟩ _
  obtain ⟨hg, had, hown, hne, hlt⟩ := h
  obtain ⟨hlen, hob⟩ := hown
  refine aw_seq (aw_reg ?_)
  refine s_t (x_q (e_assign rfl) rfl ?_)
  refine s_nil ?_
  cases ob with
  | none =>
    simp only at hob
    have : l = [] := List.eq_nil_of_length_eq_zero hob
    subst this
    refine aw_seq (aw_any mixed7 [(0, true), (1, true), (2, true), (5, true), (6, true), (7, true), (3, true), (8, true), (9, true), (4, false), (10, false), (11, true)] (by kernel_rfl) (by kernel_rfl) (by kernel_rfl) ?_)
    refine a_q rfl (e_move rfl) rfl ?_
    refine a_q rfl (e_nilP rfl) rfl ?_
    refine a_q rfl (e_fa rfl (fa50_1 _ _)) rfl ?_
    refine a_q rfl (e_move rfl) rfl ?_
    refine a_q rfl (e_nilP rfl) rfl ?_
    refine a_q rfl (e_fa rfl (fa50_1 _ _)) rfl ?_
    refine a_q rfl (e_load rfl (ld1 ag34 hg rfl)) rfl ?_
    refine a_q rfl (e_load rfl (ld1 ag34 hg rfl)) rfl ?_
    refine a_q rfl (e_len rfl (lenSl un34)) rfl ?_
    refine a_r rfl (x_q (e_data0 rfl) rfl ?_)
    refine a_r rfl (x_ustr rfl rfl (str0 _) rfl ?_)
    refine a_q rfl (e_assign rfl) rfl ?_
    exact aw_ret (fn_ret rfl ⟨rfl, fun _ _ => rfl, id, rfl⟩)
  | some bb =>
    simp only at hob
    obtain ⟨hpos, hbl, hgb⟩ := hob
    obtain ⟨m, hm⟩ : ∃ m, l.length = m + 1 := ⟨l.length - 1, by omega⟩
    have hg' : hp.get b = some (.cells [adr, .slice (some ⟨bb, 0, none⟩) (m + 1) (9223372036854775807 + 1)] 50 2 0 false true) := by rw [hg, ← hm]; rfl
    have hst : strA Tryz.prog hp 100 (.pointer (some ⟨bb, 0, none⟩)) (.int .i64 ((m + 1 : Nat) : Int)) = some (.string ⟨l.toArray⟩, hp.set bb (some (.cells (bv l) 5 1 l.length false true))) := by rw [← hm]; exact strN hgb hpos hl
    refine aw_seq (aw_any mixed7 [(0, true), (1, true), (2, true), (5, true), (6, true), (7, true), (3, true), (8, true), (9, true), (4, false), (10, false), (11, true)] (by kernel_rfl) (by kernel_rfl) (by kernel_rfl) ?_)
    refine a_q rfl (e_move rfl) rfl ?_
    refine a_q rfl (e_nilP rfl) rfl ?_
    refine a_q rfl (e_fa rfl (fa50_1 _ _)) rfl ?_
    refine a_q rfl (e_move rfl) rfl ?_
    refine a_q rfl (e_nilP rfl) rfl ?_
    refine a_q rfl (e_fa rfl (fa50_1 _ _)) rfl ?_
    refine a_q rfl (e_load rfl (ld1 ag34 hg' rfl)) rfl ?_
    refine a_q rfl (e_load rfl (ld1 ag34 hg' rfl)) rfl ?_
    refine a_q rfl (e_len rfl (lenSl un34)) rfl ?_
    refine a_r rfl (x_q (e_data rfl) rfl ?_)
    refine a_r rfl (x_ustr rfl rfl hst rfl ?_)
    refine a_q rfl (e_assign rfl) rfl ?_
    exact aw_ret (fn_ret rfl ⟨rfl, fun i hi => Tr.get_set_ne _ _ (fun e => hi (by rw [e])), fun h => h.set hbl _, rfl⟩)
end Go.Proofs.YtkjkoejnicbieaaGreat.AM

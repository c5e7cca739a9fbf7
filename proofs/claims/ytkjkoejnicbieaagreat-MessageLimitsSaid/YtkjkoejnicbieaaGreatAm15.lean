/-
  THE ABSTRACT MACHINE, part 15: append, whole.
-/
import Derived.Test.YtkjkoejnicbieaaGreatAm14
namespace Go.Proofs.YtkjkoejnicbieaaGreat.AM
open Go Go.RowKit

theorem oldA_sound {P : Program} {φ : Ren} {hp : Tr AObj} {w : World} (hw : WRel φ hp w) {size b o len cap : Nat} {s' : Value} (hs : VRel φ (.slice (some ⟨b, o, none⟩) len cap) s') {olds : List Value} (h : oldA hp size b o len = some olds) :
    ∃ olds', Src P w size s' len olds' ∧ LRel φ olds olds' := by
  refine srcA_sound hw hs ?_
  unfold oldA at h
  cases len with
  | zero => simp at h; subst h; simp [srcA]
  | succ n =>
    have : Nat.beq (n + 1) 0 = false := rfl
    rw [this] at h
    simp only [cond_false] at h
    simp [srcA, h]

/-- Less is known of a new row, and nothing of an old one. -/
theorem weaken_get {hp : Tr AObj} {b nx : Nat} {c : List Value} {e : TypeId} {sz fz : Nat} {hd : Bool} {i : Nat} {o : AObj} (h : ((hp.set b none).set nx (some (.cells c e sz fz false hd))).get i = some o) :
    (i = nx ∧ o = .cells c e sz fz false hd) ∨ (i ≠ nx ∧ (hp.set nx (some (.cells c e sz 0 false true))).get i = some o) := by
  by_cases e1 : i = nx
  · subst e1
    rw [Tr.get_set_same] at h
    cases h
    exact .inl ⟨rfl, rfl⟩
  · rw [Tr.get_set_ne _ _ e1] at h
    by_cases e2 : i = b
    · subst e2; rw [Tr.get_set_same] at h; cases h
    · rw [Tr.get_set_ne _ _ e2] at h
      exact .inr ⟨e1, by rw [Tr.get_set_ne _ _ e1]; exact h⟩

theorem weaken_rel {φ : Ren} {hp : Tr AObj} {w : World} {b nx : Nat} {c : List Value} {e : TypeId} {sz fz : Nat} {hd : Bool} (h : WRel φ (hp.set nx (some (.cells c e sz 0 false true))) w) :
    WRel φ ((hp.set b none).set nx (some (.cells c e sz fz false hd))) w := by
  refine ⟨fun i o l hi hl => ?_, fun i j oi oj li lj hij hi hj hli hlj hb => ?_⟩
  · rcases weaken_get hi with ⟨rfl, rfl⟩ | ⟨h1, h2⟩
    · obtain ⟨c', fr, g1, g0, gz, g2, g3, g4, g5⟩ := h.obj _ _ _ (Tr.get_set_same _ _ _) hl
      exact ⟨c', fr, g1, g0, fun _ => gz rfl, g2, g3, g4, fun hh => by have := g5 hh; omega⟩
    · exact h.obj i o l h2 hl
  · rcases weaken_get hi with ⟨rfl, rfl⟩ | ⟨h1, h2⟩
    · rcases weaken_get hj with ⟨rfl, rfl⟩ | ⟨k1, k2⟩
      · exact absurd rfl hij
      · have := h.apart i j _ oj li lj hij (Tr.get_set_same _ _ _) k2 hli hlj hb
        simp [AObj.ro] at this
    · rcases weaken_get hj with ⟨rfl, rfl⟩ | ⟨k1, k2⟩
      · have := h.apart i j oi _ li lj hij h2 (Tr.get_set_same _ _ _) hli hlj hb
        simp [AObj.ro] at this
      · exact h.apart i j oi oj li lj hij h2 k2 hli hlj hb

theorem weaken_ext {φ φ' : Ren} {hp : Tr AObj} {w w' : World} {b nx : Nat} {c : List Value} {e : TypeId} {sz fz : Nat} {hd : Bool} (h : Ext φ hp w φ' (hp.set nx (some (.cells c e sz 0 false true))) w') :
    Ext φ hp w φ' ((hp.set b none).set nx (some (.cells c e sz fz false hd))) w' :=
  ⟨h.le, h.os, h.tape, h.output, h.size, h.frame, fun i o l hi hl => by
    rcases weaken_get hi with ⟨rfl, rfl⟩ | ⟨h1, h2⟩
    · exact h.born _ (.cells c e sz 0 false true) l (Tr.get_set_same _ _ _) hl
    · exact h.born i o l h2 hl⟩

/-- What an append comes to. -/
def ASound (P : Program) (φ : Ren) (hp : Tr AObj) (w : World) (nx : Nat) (t u ty : TypeId) (s' x' : Value) (out : Out) : Prop :=
  ∃ φ' w' v v', out.v = some v ∧ (Builtin.append_ #[t, u] ty #[s', x']).run P w = .ok v' w' ∧ Ext φ hp w φ' out.hp w' ∧ WRel φ' out.hp w' ∧
    (∀ i, φ' i ≠ none → φ i ≠ none ∨ (nx ≤ i ∧ i < out.nx)) ∧ nx ≤ out.nx ∧ VRel φ' v v'

set_option maxHeartbeats 800000 in
theorem appA_sound {P : Program} {φ : Ren} {hp : Tr AObj} {w : World} (hw : WRel φ hp w) {nx : Nat} (hn : φ nx = none) {t u ty : TypeId} {s s' x x' : Value} (hs : VRel φ s s') (hx : VRel φ x x') {out : Out} (h : appA P hp nx t u s x = some out) :
    ASound P φ hp w nx t u ty s' x' out := by
  unfold appA at h
  split at h
  · rename_i e ht
    split at h
    · cases h
    · cases h
    · rename_i du hnint hu
      have hdu : ∀ k, du ≠ .int k := fun k hk => hnint k hk
      split at h
      · cases h
      · rename_i i hi
        split at h
        · cases h
        · rename_i z hz
          split at h
          · cases h
          · rename_i n vs hsrc
            obtain ⟨vs', hsr, hvs⟩ := srcA_sound (P := P) hw hx hsrc
            have hvl := hsr.2
            have hso : szOf P e = some i.size := by simp [szOf, hi]
            cases hck : (Nat.blt 0 i.size && Nat.beq z.cells.size i.size && cst 8 z) with
            | false => simp [hck] at h
            | true =>
              simp only [hck, cond_true] at h
              simp [Nat.blt_eq] at hck
              obtain ⟨⟨hsz, hzs⟩, hcz⟩ := hck
              have same : ∀ (a : Option Addr) (len cap : Nat), s' = .slice a len cap → n = 0 → len ≤ cap → VRel φ s s' → out = ⟨some s, hp, nx⟩ → ASound P φ hp w nx t u ty s' x' out := by
                intro a len cap e1 e2 e3 hr e4
                subst e1
                subst e2
                subst e4
                have hv0 : vs' = [] := by
                  cases vs' with
                  | nil => rfl
                  | cons a b => simp at hvl
                subst hv0
                refine ⟨φ, w, s, .slice a len cap, rfl, ?_, Ext.refl _ _ _, hw, fun i hi => .inl hi, Nat.le_refl _, hr⟩
                have := run_append_in (P := P) (w := w) (w' := w) (ty := ty) ht hu hdu hso (base := a) (sLen := len) (sCap := cap) hsr (by omega) (by cases a <;> simp [storeCells])
                simpa using this
              split at h
              · rename_i cap
                cases hs with
                | snil =>
                  cases hn0 : Nat.beq n 0 with
                  | true =>
                    simp only [hn0, cond_true, Option.some.injEq] at h
                    exact same none 0 cap rfl (Nat.eq_of_beq_eq_true hn0) (Nat.zero_le _) (.snil _ _) h.symm
                  | false =>
                    simp only [hn0, cond_false] at h
                    cases hc : (Nat.blt cap n && Nat.ble (n * i.bytes) 140737488355328 && Nat.ble n 140737488355328) with
                    | false => simp [hc] at h
                    | true =>
                      simp only [hc, cond_true, Option.some.injEq] at h
                      subst h
                      simp [Nat.blt_eq] at hc
                      obtain ⟨⟨hcap, hfit⟩, h63⟩ := hc
                      have hold : Src P w i.size (.slice none 0 cap) 0 [] := ⟨fun w2 _ => ⟨by simp [Builtin.lenOf], by simp [Builtin.firstCells]⟩, by simp⟩
                      have run1 := run_append_more (P := P) (w := w) (ty := ty) ht hu hdu hi hz hsr hold (by omega) (by simpa using hfit) (by omega)
                      have hge := grownCap_ge w (0 + n) cap e
                      obtain ⟨φ', g1, g2, g3, g4⟩ := grown_new (e := e) (size := i.size) (need := n) (cap := grownCap w (0 + n) cap e) (zs := (Builtin.zeroCells z.cells (grownCap w (0 + n) cap e - (0 + n))).toList) hw hn hvs hvl (by rw [zeroCells_len, hzs]; simp) (by omega)
                      refine ⟨φ', _, _, _, rfl, run1, ?_, ?_, fun j hj => ?_, by simp, ?_⟩
                      · simpa using g1
                      · simpa using g2
                      · rcases g3 j hj with h | h
                        · exact .inl h
                        · exact .inr ⟨by simp [h], by simp [h]⟩
                      · simpa using g4
              · rename_i b o len cap
                cases hn0 : Nat.beq n 0 with
                | true =>
                  simp only [hn0, cond_true] at h
                  cases hlc : Nat.ble len cap with
                  | false => simp [hlc] at h
                  | true =>
                    simp only [hlc, cond_true, Option.some.injEq] at h
                    have hlc' : len ≤ cap := by simpa using hlc
                    have hs0 := hs
                    cases hs with
                    | slice hl hc => exact same _ _ _ rfl (Nat.eq_of_beq_eq_true hn0) hlc' hs0 h.symm
                    | sopen hl hlen => exact same _ _ _ rfl (Nat.eq_of_beq_eq_true hn0) hlen hs0 h.symm
                    | szero => exact same _ _ _ rfl (Nat.eq_of_beq_eq_true hn0) (Nat.le_refl _) hs0 h.symm
                | false =>
                  simp only [hn0, cond_false] at h
                  have hnpos : 0 < n := by
                    rcases Nat.eq_zero_or_pos n with h0 | h0
                    · subst h0; cases hn0
                    · exact h0
                  cases hc : (Nat.ble ((len + n) * i.bytes) 140737488355328 && Nat.ble (len + n) 140737488355328) with
                  | false => simp [hc] at h
                  | true =>
                    simp only [hc, cond_true] at h
                    simp at hc
                    obtain ⟨hfit, h63⟩ := hc
                    -- a new row
                    have more : ∀ (a' : Option Addr) (cap' : Nat) (olds olds' : List Value), s' = .slice a' len cap' → Src P w i.size s' len olds' → LRel φ olds olds' → cap' < len + n →
                        ∃ φ' w' v', (Builtin.append_ #[t, u] ty #[s', x']).run P w = .ok v' w' ∧ Ext φ hp w φ' (hp.set nx (some (.cells (olds ++ vs) e i.size 0 false true))) w' ∧
                          WRel φ' (hp.set nx (some (.cells (olds ++ vs) e i.size 0 false true))) w' ∧ (∀ j, φ' j ≠ none → φ j ≠ none ∨ j = nx) ∧ VRel φ' (.slice (some ⟨nx, 0, none⟩) (len + n) OPEN) v' := by
                      intro a' cap' olds olds' e1 hold hor hlt
                      subst e1
                      have run1 := run_append_more (P := P) (w := w) (ty := ty) ht hu hdu hi hz hsr hold hlt hfit h63
                      have hge := grownCap_ge w (len + n) cap' e
                      obtain ⟨φ', g1, g2, g3, g4⟩ := grown_new (e := e) (size := i.size) (need := len + n) (cap := grownCap w (len + n) cap' e) (zs := (Builtin.zeroCells z.cells (grownCap w (len + n) cap' e - (len + n))).toList) hw hn (hor.append hvs)
                        (by rw [List.length_append, hold.2, hvl, ← Nat.add_mul]) (by rw [zeroCells_len, hzs]) hge
                      exact ⟨φ', _, _, run1, g1, g2, g3, g4⟩
                    cases hcap : Nat.blt cap OPEN with
                    | true =>
                      simp only [hcap, cond_true] at h
                      have hcap' : cap < OPEN := by simpa [Nat.blt_eq] using hcap
                      cases hroom : Nat.ble (len + n) cap with
                      | true =>
                        simp only [hroom, cond_true] at h
                        have hroom' : len + n ≤ cap := by simpa using hroom
                        split at h
                        · rename_i hp' hst
                          cases h
                          cases hs with
                          | @slice _ _ _ _ l hl hc =>
                            obtain ⟨w', r1, r2, r3⟩ := stCells_sound (P := P) hw hvs hst hl
                            refine ⟨φ, w', _, _, rfl, run_append_in (P := P) (w := w) (w' := w') (ty := ty) ht hu hdu hso hsr hroom' ?_, r3, r2, fun i hi => .inl hi, Nat.le_refl _, .slice hl hc⟩
                            simp only [addr_add, Nat.add_assoc]
                            exact r1
                          | sopen => omega
                          | szero => omega
                        · cases h
                      | false =>
                        simp only [hroom, cond_false] at h
                        have hroom' : cap < len + n := by
                          rcases Nat.lt_or_ge cap (len + n) with h0 | h0
                          · exact h0
                          · rw [Nat.ble_eq_true_of_le h0] at hroom; cases hroom
                        split at h
                        · rename_i olds hold
                          cases h
                          obtain ⟨olds', o1, o2⟩ := oldA_sound (P := P) hw hs hold
                          have hshape : ∃ a', s' = .slice a' len cap := by cases hs <;> first | exact ⟨_, rfl⟩ | omega
                          obtain ⟨a', ha'⟩ := hshape
                          obtain ⟨φ', w', v', g0, g1, g2, g3, g4⟩ := more a' cap olds olds' ha' o1 o2 hroom'
                          exact ⟨φ', w', _, v', rfl, g0, g1, g2, fun j hj => (g3 j hj).imp id fun h => ⟨by simp [h], by simp [h]⟩, by simp, g4⟩
                        · cases h
                    | false =>
                      simp only [hcap, cond_false] at h
                      cases hcO : Nat.beq cap OPEN with
                      | false => simp [hcO] at h
                      | true =>
                        simp only [hcO, cond_true] at h
                        have hcO' := Nat.eq_of_beq_eq_true hcO
                        subst hcO'
                        clear hcO hcap
                        split at h
                        · rename_i c e' sz fz hd hg
                          cases hee : (Nat.beq sz i.size && Nat.beq e' e) with
                          | false => simp [hee] at h
                          | true =>
                            simp only [hee, cond_true] at h
                            simp at hee
                            obtain ⟨rfl, rfl⟩ := hee
                            cases hs with
                            | slice hl hc => exact absurd rfl hc
                            | @sopen _ _ _ xo cp l hl hlen hxo hfin hexact =>
                              obtain ⟨c', fr, q1, q0, qz, q2, q3, q4, q5⟩ := hw.obj _ _ _ hg hl
                              cases hin : (Nat.blt 0 len && Nat.ble (o + (len + n) * i.size) c.length) with
                              | true =>
                                simp only [hin, cond_true] at h
                                simp [Nat.blt_eq] at hin
                                obtain ⟨hl0, hle⟩ := hin
                                split at h
                                · rename_i hp' hst
                                  cases h
                                  obtain ⟨w', r1, r2, r3⟩ := stCells_sound (P := P) hw hvs hst hl
                                  obtain ⟨hx1, hx2⟩ := hexact hl0
                                  have hroom' : len + n ≤ cp := by
                                    have h1 : (len + n) * i.size ≤ cp * i.size := by rw [q0] at hx2; omega
                                    exact Nat.le_of_mul_le_mul_right h1 hsz
                                  refine ⟨φ, w', _, _, rfl, run_append_in (P := P) (w := w) (w' := w') (ty := ty) ht hu hdu hso hsr hroom' ?_, r3, r2, fun i hi => .inl hi, Nat.le_refl _, .sopen hl hroom' hxo hfin (fun _ => ⟨hx1, hx2⟩)⟩
                                  simp only [addr_add, hx1, Nat.add_assoc]
                                  exact r1
                                · cases h
                              | false =>
                                simp only [hin, cond_false] at h
                                cases hmb : (Nat.ble fz (bif Nat.beq len 0 then 0 else o + len * i.size) && allOne vs) with
                                | false => simp [hmb] at h
                                | true =>
                                  simp only [hmb, cond_true] at h
                                  simp only [Bool.and_eq_true, Nat.ble_eq] at hmb
                                  obtain ⟨hfz, hone⟩ := hmb
                                  split at h
                                  · rename_i olds hold
                                    cases h
                                    rcases Nat.lt_or_ge cp (len + n) with hlt | hge
                                    · -- a new row after all: the old one is forgotten all the same
                                      obtain ⟨olds', o1, o2⟩ := oldA_sound (P := P) hw (VRel.sopen hl hlen hxo hfin hexact) hold
                                      obtain ⟨φ', w', v', g0, g1, g2, g3, g4⟩ := more _ cp olds olds' rfl o1 o2 hlt
                                      exact ⟨φ', w', _, v', rfl, g0, weaken_ext g1, weaken_rel g2, fun j hj => (g3 j hj).imp id fun h => ⟨by simp [h], by simp [h]⟩, by simp, g4⟩
                                    · obtain ⟨φ', w', r1, g1, g2, g3, g4⟩ := grown_in (P := P) hw hn hg hl hvs hvl hold hge hxo hfin hexact hfz hone
                                      refine ⟨φ', w', _, _, rfl, run_append_in (P := P) (w := w) (w' := w') (ty := ty) ht hu hdu hso hsr hge ?_, g1, g2, fun j hj => (g3 j hj).imp id fun h => ⟨by simp [h], by simp [h]⟩, by simp, g4⟩
                                      simp only [addr_add]
                                      exact r1
                                  · cases h
                        · cases h
              · cases h
  · cases h

end Go.Proofs.YtkjkoejnicbieaaGreat.AM

/-
  THE ABSTRACT MACHINE, part 24: functions without a text of their own, which the model answers on the spot.
-/
import Derived.Test.YtkjkoejnicbieaaGreatAm23
import Derived.Laws.Externs
import Derived.Laws.LoneSync
namespace Go.Proofs.YtkjkoejnicbieaaGreat.AM
open Go Go.RowKit

/-- What such a function does. -/
inductive XK where
  | same
  | indexByte
  | mark0
  | mark1
  | load (k : IntKind)
  | store (k : IntKind)
  | cas (k : IntKind)
  | add (k : IntKind)

def xfK (kind : FuncId → Option XK) : CF := fun f l hp nx =>
  match kind f with
  | none => none
  | some .same => match l with
    | [v] => some [⟨some v, hp, nx⟩]
    | _ => none
  | some .indexByte => match l with
    | [.string s, .int .u8 (.ofNat n)] => bif Nat.blt n 256 then some [⟨some (.int .i64 (firstIdx s (UInt8.ofNat n))), hp, nx⟩] else none
    | _ => none
  | some .mark0 => match l with
    | [] => some [⟨some (.tuple #[]), hp, nx⟩]
    | _ => none
  | some .mark1 => match l with
    | [.pointer (some ⟨_, _, none⟩)] => some [⟨some (.tuple #[]), hp, nx⟩]
    | _ => none
  | some (.load k) => match l with
    | [.pointer (some ⟨b, o, none⟩)] => match ldCell hp b o with
      | some (.int k' n) => bif decide (k' = k) then some [⟨some (.int k n), hp, nx⟩] else none
      | _ => none
    | _ => none
  | some (.store k) => match l with
    | [.pointer (some ⟨b, o, none⟩), .int k' y] => bif decide (k' = k) then
        match stCells hp b o [.int k y] with
        | some hp' => some [⟨some (.tuple #[]), hp', nx⟩]
        | none => none
      else none
    | _ => none
  | some (.cas k) => match l with
    | [.pointer (some ⟨b, o, none⟩), .int k1 x, .int k2 y] => match ldCell hp b o with
      | some (.int k0 n) => bif decide (k1 = k) && decide (k2 = k) && decide (k0 = k) then
          match stCells hp b o [.int k y] with
          | some hp' => bif intEq n x then some [⟨some (.bool true), hp', nx⟩] else some [⟨some (.bool false), hp, nx⟩]
          | none => none
        else none
      | _ => none
    | _ => none
  | some (.add k) => match l with
    | [.pointer (some ⟨b, o, none⟩), .int k1 y] => match ldCell hp b o with
      | some (.int k0 n) => bif decide (k1 = k) && decide (k0 = k) then
          match stCells hp b o [.int k (k.wrap (n + y))] with
          | some hp' => some [⟨some (.int k (k.wrap (n + y))), hp', nx⟩]
          | none => none
        else none
      | _ => none
    | _ => none

def XOk (P : Program) (f : FuncId) (x : XK) : Prop :=
  ∃ fn, P.funcs[f]? = some fn ∧ (fn.name == "runtime.NumGoroutine") = false ∧ fn.body.isNone = true ∧ Extern.findNext fn = none ∧
    match x with
    | .same => Extern.find fn = some Extern.AbiNoEscape.same
    | .indexByte => Extern.find fn = some Extern.BytealgIndexByte.indexByte
    | .mark0 => ∃ m, Extern.find fn = some (fun _ => do mark m; pure Extern.Race.none_)
    | .mark1 => ∃ m, Extern.find fn = some (Extern.Race.marked m)
    | .load k => Extern.find fn = some (Extern.Atomic.loadT (.int k))
    | .store _ => Extern.find fn = some Extern.Atomic.storeT
    | .cas k => Extern.find fn = some (Extern.Atomic.casT (.int k))
    | .add k => Extern.find fn = some (Extern.Atomic.update (Op.intArith .add) k true)

theorem intEq_iff (a b : Int) : intEq a b = true ↔ a = b := by
  refine ⟨intEq_eq a b, fun h => ?_⟩
  subst h
  cases a <;> simp [intEq]

/-- A cell that may be written: where it lies, and what a store there leaves. -/
theorem stOne {P : Program} {φ : Ren} {hp hp' : Tr AObj} {w : World} (hw : WRel φ hp w) {b o : Nat} {v : Value} (hv : cst 0 v = true) (h : stCells hp b o [v] = some hp') {l : Loc} (hl : φ b = some l) :
    ∃ u, w.cell? ⟨l.blk, l.off + o, none⟩ = some u ∧ w.frozen? ⟨l.blk, l.off + o, none⟩ = false ∧ WRel φ hp' (w.setCell ⟨l.blk, l.off + o, none⟩ v) ∧ Ext φ hp w φ hp' (w.setCell ⟨l.blk, l.off + o, none⟩ v) := by
  obtain ⟨w', g1, g2, g3⟩ := stCells_sound (P := P) hw (.cons (cst_rel φ 0 v hv) .nil) h hl
  unfold stCells at h
  split at h
  · rename_i c e sz fz hd hg
    cases hc : (Nat.ble fz o && Nat.ble (o + [v].length) c.length && allOne [v]) with
    | false => rw [hc] at h; cases h
    | true =>
      simp only [Bool.and_eq_true, Nat.ble_eq, List.length_singleton] at hc
      obtain ⟨⟨h1, h2⟩, h3⟩ := hc
      obtain ⟨c', fr, k1, k2, k3, k4, k5, k6, k7⟩ := hw.obj _ _ _ hg hl
      have hone : v.oneCell' = true := allOne_mem h3 v (by simp)
      have hlt : l.off + o < c'.size := by omega
      have hcell : w.cell? ⟨l.blk, l.off + o, none⟩ = some c'[l.off + o] := by simp [World.cell?, k1, hlt]
      have hfr : w.frozen? ⟨l.blk, l.off + o, none⟩ = false := by
        simp only [World.frozen?, k1]
        obtain ⟨lo, hi⟩ := fr
        simp only [decide_eq_false_iff_not, Bool.and_eq_false_iff]
        simp only at k7
        by_cases e : lo = hi
        · omega
        · have := k7 e; omega
      have hrun : (storeCells ⟨l.blk, l.off + o, none⟩ [v]).run P w = .ok () (w.setCell ⟨l.blk, l.off + o, none⟩ v) := by
        have h0 : Addr.add ⟨l.blk, l.off + o, none⟩ 0 = ⟨l.blk, l.off + o, none⟩ := by simp [Addr.add]
        simp only [storeCells, h0, Sem.run_bind, run_store P w _ v _ hone, hcell, hfr]
        simp
      rw [hrun] at g1
      cases g1
      exact ⟨_, hcell, hfr, g2, g3⟩
  · cases h

theorem xfK_sound {P : Program} {G : Nat} {kind : FuncId → Option XK} (hk : ∀ f x, kind f = some x → XOk P f x) : CSound P G (xfK kind) := by
  intro f l hp nx outs h φ w args hG hl hw hb
  unfold xfK at h
  have back : ∀ (v v' : Value), outs = [⟨some v, hp, nx⟩] → VRel φ v v' → (callFunc f args).run P w = .ok (.value v') w → Invokes P f args w (Back φ hp w outs) := by
    intro v v' ho hv hr
    exact .inr ⟨v', w, hr, _, by rw [ho]; exact List.mem_singleton.2 rfl, φ, v, rfl, Ext.refl _ _ _, hw, hb, hv⟩
  split at h
  · cases h
  · rename_i hx
    obtain ⟨fn, h1, h2, h3, h4, h5⟩ := hk f _ hx
    split at h
    · rename_i u
      cases h
      obtain ⟨u', e, hu⟩ := lrel_one hl
      obtain rfl : args = #[u'] := Array.ext' e
      refine back _ u' rfl hu ?_
      rw [run_callFunc_extern h1 h2 h3 h4 h5]; rfl
    · cases h
  · rename_i hx
    obtain ⟨fn, h1, h2, h3, h4, h5⟩ := hk f _ hx
    split at h
    · rename_i s n
      cases hbn : Nat.blt n 256 with
      | false => simp [hbn] at h
      | true =>
        simp only [hbn, cond_true, Option.some.injEq] at h
        obtain ⟨u', v', e, g1, g2⟩ := lrel_two hl
        obtain rfl : args = #[u', v'] := Array.ext' e
        cases g1; cases g2
        refine back _ _ h.symm (.int _ _) ?_
        rw [run_callFunc_extern h1 h2 h3 h4 h5, run_indexByte_string]
        rfl
    · cases h
  · rename_i hx
    obtain ⟨fn, h1, h2, h3, h4, m, h5⟩ := hk f _ hx
    split at h
    · cases h
      have e : args.toList = [] := List.eq_nil_of_length_eq_zero hl.length.symm
      obtain rfl : args = #[] := Array.ext' e
      exact back _ _ rfl (cst_rel φ 8 _ rfl) (run_call_mark0 h1 h2 h3 h4 m h5 w)
    · cases h
  · rename_i hx
    obtain ⟨fn, h1, h2, h3, h4, m, h5⟩ := hk f _ hx
    split at h
    · cases h
      obtain ⟨u', e, hu⟩ := lrel_one hl
      obtain rfl : args = #[u'] := Array.ext' e
      cases hu
      exact back _ _ rfl (cst_rel φ 8 _ rfl) (run_call_marked h1 h2 h3 h4 m h5 _ w)
    · cases h
  · rename_i k hx
    obtain ⟨fn, h1, h2, h3, h4, h5⟩ := hk f _ hx
    split at h
    · rename_i b o
      split at h
      · rename_i k' n hc
        cases hkk : decide (k' = k) with
        | false => simp [hkk] at h
        | true =>
          simp only [hkk, cond_true, Option.some.injEq] at h
          have := of_decide_eq_true hkk
          subst this
          obtain ⟨u', e, hu⟩ := lrel_one hl
          obtain rfl : args = #[u'] := Array.ext' e
          cases hu with
          | ptr hlo =>
            obtain ⟨v', g1, g2⟩ := ldCell_sound hw hc hlo
            cases g2
            exact back _ _ h.symm (.int _ _) (run_call_load h1 h2 h3 h4 _ h5 g1)
      · cases h
    · cases h
  · rename_i k hx
    obtain ⟨fn, h1, h2, h3, h4, h5⟩ := hk f _ hx
    split at h
    · rename_i b o k' y
      cases hkk : decide (k' = k) with
      | false => simp [hkk] at h
      | true =>
        simp only [hkk, cond_true] at h
        have := of_decide_eq_true hkk
        subst this
        split at h
        · rename_i hp' hst
          cases h
          obtain ⟨u', v', e, g1, g2⟩ := lrel_two hl
          obtain rfl : args = #[u', v'] := Array.ext' e
          cases g2
          cases g1 with
          | ptr hlo =>
            obtain ⟨u, q1, q2, q3, q4⟩ := stOne (P := P) hw rfl hst hlo
            exact .inr ⟨_, _, run_call_store h1 h2 h3 h4 h5 q1 q2, _, List.mem_singleton.2 rfl, φ, _, rfl, q4, q3, hb, cst_rel φ 8 _ rfl⟩
        · cases h
    · cases h
  · rename_i k hx
    obtain ⟨fn, h1, h2, h3, h4, h5⟩ := hk f _ hx
    split at h
    · rename_i b o k1 x k2 y
      split at h
      · rename_i k0 n hc
        cases hkk : (decide (k1 = k) && decide (k2 = k) && decide (k0 = k)) with
        | false => simp [hkk] at h
        | true =>
          simp only [hkk, cond_true] at h
          simp only [Bool.and_eq_true, decide_eq_true_eq] at hkk
          obtain ⟨⟨rfl, rfl⟩, rfl⟩ := hkk
          split at h
          · rename_i hp' hst
            obtain ⟨args, rfl⟩ : ∃ l, args = l.toArray := ⟨args.toList, by simp⟩
            simp only at hl
            cases hl with
            | cons a1 t1 => cases t1 with
              | cons a2 t2 => cases t2 with
                | cons a3 t3 =>
                  cases t3; cases a2; cases a3
                  cases a1 with
                  | ptr hlo =>
                    obtain ⟨u, q1, q2, q3, q4⟩ := stOne (P := P) hw rfl hst hlo
                    obtain ⟨v', g1, g2⟩ := ldCell_sound hw hc hlo
                    cases g2
                    by_cases e : n = x
                    · subst e
                      simp only [(intEq_iff n n).2 rfl, cond_true, Option.some.injEq] at h
                      subst h
                      exact .inr ⟨_, _, run_call_cas_hit h1 h2 h3 h4 _ h5 g1 q2, _, List.mem_singleton.2 rfl, φ, _, rfl, q4, q3, hb, .bool true⟩
                    · have hne : intEq n x = false := by
                        cases hh : intEq n x with
                        | false => rfl
                        | true => exact absurd ((intEq_iff n x).1 hh) e
                      simp only [hne, cond_false, Option.some.injEq] at h
                      subst h
                      exact .inr ⟨_, _, run_call_cas_miss h1 h2 h3 h4 _ h5 g1 q2 e, _, List.mem_singleton.2 rfl, φ, _, rfl, Ext.refl _ _ _, hw, hb, .bool false⟩
          · cases h
      · cases h
    · cases h
  · rename_i k hx
    obtain ⟨fn, h1, h2, h3, h4, h5⟩ := hk f _ hx
    split at h
    · rename_i b o k1 y
      split at h
      · rename_i k0 n hc
        cases hkk : (decide (k1 = k) && decide (k0 = k)) with
        | false => simp [hkk] at h
        | true =>
          simp only [hkk, cond_true] at h
          simp only [Bool.and_eq_true, decide_eq_true_eq] at hkk
          obtain ⟨rfl, rfl⟩ := hkk
          split at h
          · rename_i hp' hst
            cases h
            obtain ⟨u', v', e, g1, g2⟩ := lrel_two hl
            obtain rfl : args = #[u', v'] := Array.ext' e
            cases g2
            cases g1 with
            | ptr hlo =>
              obtain ⟨u, q1, q2, q3, q4⟩ := stOne (P := P) hw rfl hst hlo
              obtain ⟨v', g1, g2⟩ := ldCell_sound hw hc hlo
              cases g2
              exact .inr ⟨_, _, run_call_add h1 h2 h3 h4 _ h5 g1 q2 (by simp [Op.intArith]), _, List.mem_singleton.2 rfl, φ, _, rfl, q4, q3, hb, .int _ _⟩
          · cases h
      · cases h
    · cases h
end Go.Proofs.YtkjkoejnicbieaaGreat.AM

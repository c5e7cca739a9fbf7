/-
  THE ABSTRACT MACHINE, part 16: the text of bytes; every operation that writes.
-/
import Derived.Test.YtkjkoejnicbieaaGreatAm15
namespace Go.Proofs.YtkjkoejnicbieaaGreat.AM
open Go Go.RowKit

def strA (P : Program) (hp : Tr AObj) (pt : TypeId) (p n : Value) : Option (Value × Tr AObj) :=
  match natV n with
  | some 0 => match p with
    | .pointer _ => some (.string ⟨#[]⟩, hp)
    | _ => none
  | some (m + 1) => match P.underlying pt with
    | some (.pointer e) => match szOf P e with
      | some 1 => match p with
        | .pointer (some ⟨b, o, none⟩) => match hp.get b with
          | some (.cells c e' sz fz false hd) => bif Nat.beq e' e && Nat.ble (o + (m + 1)) c.length && Nat.blt m 4611686018427387904 then
              match bytesOf ((c.drop o).take (m + 1)) with
              | some bs => some (.string ⟨bs.toArray⟩, hp.set b (some (.cells c e' sz (max fz (o + (m + 1))) false hd)))
              | none => none
            else none
          | _ => none
        | _ => none
      | _ => none
    | _ => none
  | none => none

theorem liesAt_bytes_at {P : Program} {e : TypeId} (hc : P.cellsOf e = 1) (count off n : Nat) (hn : off + n ≤ count) : liesAt P P.depth e count off e n = true := by
  have hd : P.depth = (2 * (P.types.size + Made.depth) + 1) + 1 := rfl
  rw [hd]
  simp only [liesAt, Bool.or_eq_true]
  left
  rw [hd]
  simp [rowAt, hc, hn, sameLayout, Nat.mod_one]

theorem freeze_wr {w : World} {b off n : Nat} {c : Array Value} {e : TypeId} {fr : Nat × Nat} (h : w.heap[b]? = some (.cells c e fr)) (hn : n ≠ 0) :
    Wr w (w.freeze ⟨b, off, none⟩ n) b (.cells c e (if fr.1 == fr.2 then (off, off + n) else (min fr.1 off, max fr.2 (off + n)))) := by
  obtain ⟨lo, hi⟩ := fr
  unfold World.freeze
  rw [if_neg hn]
  refine ⟨?_, fun k hk => ?_, rfl, rfl, rfl, by simp⟩
  · simp [Array.getElem?_modify, h]
  · simp only [Array.getElem?_modify]
    rw [if_neg (Ne.symm hk)]

theorem strA_sound {P : Program} {φ : Ren} {hp hp' : Tr AObj} {w : World} (hw : WRel φ hp w) {pt it ty : TypeId} {p p' n n' v : Value} (hp1 : VRel φ p p') (hn1 : VRel φ n n') (h : strA P hp pt p n = some (v, hp')) :
    ∃ w', (Builtin.unsafeString_ #[pt, it] ty #[p', n']).run P w = .ok v w' ∧ cst 0 v = true ∧ WRel φ hp' w' ∧ Ext φ hp w φ hp' w' := by
  unfold strA at h
  split at h
  · rename_i hn
    obtain rfl := natV_rel hn1 hn
    obtain ⟨k, rfl⟩ := natV_eq hn
    split at h
    · cases h
      have run0 : ∀ a : Option Addr, (Builtin.unsafeString_ #[pt, it] ty #[.pointer a, .int k ((0 : Nat) : Int)]).run P w = .ok (.string .empty) w := by
        intro a
        have hmax : IntKind.i64.max = 9223372036854775807 := rfl
        cases a with
        | none =>
          have hdef : Builtin.unsafeString_ #[pt, it] ty #[.pointer none, .int k ((0 : Nat) : Int)] =
              (do
                let n ← asInt (.int k ((0 : Nat) : Int))
                if n < 0 then runtimePanic (.error "unsafe.String: len out of range")
                if n > IntKind.i64.max then unsupported (.unsafePointer "String: a length above the largest int")
                if n = 0 then pure (.string .empty)
                else runtimePanic (.error "unsafe.String: ptr is nil and len is not zero")) := rfl
          rw [hdef]
          simp [asInt, asIntOf, hmax]
        | some a =>
          have hdef : Builtin.unsafeString_ #[pt, it] ty #[.pointer (some a), .int k ((0 : Nat) : Int)] =
              (do
                let n ← asInt (.int k ((0 : Nat) : Int))
                if n < 0 then runtimePanic (.error "unsafe.String: len out of range")
                if n > IntKind.i64.max then unsupported (.unsafePointer "String: a length above the largest int")
                if n = 0 then pure (.string .empty)
                else if ← variablesAt a (← elemOf pt) n.toNat then do
                  let s ← loadBytes a .empty n.toNat
                  freeze a n.toNat
                  pure (.string s)
                else unsupported (.unsafePointer "String: not so many bytes at ptr")) := rfl
          rw [hdef]
          simp [asInt, asIntOf, hmax]
      cases hp1 <;> exact ⟨w, run0 _, rfl, hw, Ext.refl _ _ _⟩
    · cases h
  · rename_i m hn
    obtain rfl := natV_rel hn1 hn
    obtain ⟨k, rfl⟩ := natV_eq hn
    split at h
    · rename_i e hu
      split at h
      · rename_i hs
        split at h
        · rename_i b o
          split at h
          · rename_i c e' sz fz hd hg
            cases hc : (Nat.beq e' e && Nat.ble (o + (m + 1)) c.length && Nat.blt m 4611686018427387904) with
            | false => simp [hc] at h
            | true =>
              simp only [hc, cond_true] at h
              simp only [Bool.and_eq_true, Nat.beq_eq, Nat.ble_eq, Nat.blt_eq] at hc
              obtain ⟨⟨rfl, hlen⟩, hm⟩ := hc
              split at h
              · rename_i bs hbs
                cases h
                obtain ⟨b1, b2⟩ := bytesOf_get _ _ hbs
                have hbl : bs.length = m + 1 := by rw [b1]; simp; omega
                cases hp1 with
                | @ptr _ _ l hl =>
                  obtain ⟨c', fr, q1, q0, qz, q2, q3, q4, q5⟩ := hw.obj _ _ _ hg hl
                  have hce : P.cellsOf e' = 1 := by
                    unfold szOf at hs
                    simp [Program.cellsOf, hs]
                  have hcells : ∀ j x, bs[j]? = some x → w.cell? (Addr.add ⟨l.blk, l.off + o, none⟩ j) = some (.int .u8 x.toNat) := by
                    intro j x hx
                    have h1 := b2 j x hx
                    rw [List.getElem?_take] at h1
                    split at h1
                    · rw [List.getElem?_drop] at h1
                      obtain ⟨v', k1, k2⟩ := q4 _ _ h1
                      cases k2
                      rw [addr_add, Nat.add_assoc]
                      simp [World.cell?, q1, k1]
                    · cases h1
                  have hlb := Lib.run_loadBytes (P := P) w bs ⟨l.blk, l.off + o, none⟩ .empty hcells
                  have hlies := liesAt_bytes_at (P := P) hce (c'.size / P.cellsOf e') (l.off + o) (m + 1) (by rw [hce]; simp; omega)
                  have hwr := freeze_wr (w := w) (off := l.off + o) (n := m + 1) q1 (by omega)
                  have hva : (variablesAt ⟨l.blk, l.off + o, none⟩ e' (m + 1)).run P w = .ok true w := by
                    simp [variablesAt, World.shape?, q1, hlies]
                  refine ⟨w.freeze ⟨l.blk, l.off + o, none⟩ (m + 1), ?_, rfl, ?_, Ext.write hg hl rfl hwr.other hwr.os hwr.tape hwr.output hwr.size⟩
                  · have hdef : Builtin.unsafeString_ #[pt, it] ty #[.pointer (some ⟨l.blk, l.off + o, none⟩), .int k ((m + 1 : Nat) : Int)] = (do
                      let n ← asInt (.int k ((m + 1 : Nat) : Int))
                      if n < 0 then runtimePanic (.error "unsafe.String: len out of range")
                      if n > IntKind.i64.max then unsupported (.unsafePointer "String: a length above the largest int")
                      if n = 0 then pure (.string .empty)
                      else if ← variablesAt ⟨l.blk, l.off + o, none⟩ (← elemOf pt) n.toNat then do
                        let s ← loadBytes ⟨l.blk, l.off + o, none⟩ .empty n.toNat
                        freeze ⟨l.blk, l.off + o, none⟩ n.toNat
                        pure (.string s)
                      else unsupported (.unsafePointer "String: not so many bytes at ptr")) := rfl
                    rw [hdef]
                    have hmax : IntKind.i64.max = 9223372036854775807 := rfl
                    have h1 : ¬ ((m + 1 : Nat) : Int) < 0 := by omega
                    have h2 : ¬ ((m + 1 : Nat) : Int) > 9223372036854775807 := by omega
                    have h3 : ¬ ((m + 1 : Nat) : Int) = 0 := by omega
                    have helem : (elemOf pt).run P w = .ok e' w := by simp [elemOf, run_underlying hu]
                    rw [hbl] at hlb
                    simp only [asInt, asIntOf, Sem.run_bind, Sem.run_pure, Result.andThen_ok, hmax]
                    rw [if_neg h1, if_neg h2, if_neg h3]
                    simp only [Sem.run_bind, helem, Result.andThen_ok, Int.toNat_natCast, hva, if_true, hlb, run_freeze, Sem.run_pure]
                    congr 2
                    apply ByteArray.ext
                    simp
                  · refine WRel.write hw hg hl rfl rfl hwr.other (mapsStep_cells q1 hwr) ⟨c', _, hwr.here, q0, qz, q2, q3, q4, fun hh => ?_⟩
                    split
                    · simp; omega
                    · rename_i hne
                      have := q5 (by simpa using hne)
                      simp; omega
              · cases h
          · cases h
        · cases h
      · cases h
    · cases h
  · cases h

/-! ### copy -/
def copyA (P : Program) (hp : Tr AObj) (t : TypeId) (d x : Value) : Option (Value × Tr AObj) :=
  match P.underlying t with
  | some (.slice e) => match szOf P e with
    | some size => match srcA hp size x with
      | some (n, vs) => match d with
        | .slice (some ⟨b, o, none⟩) len _ =>
          bif Nat.ble n len then
            bif Nat.beq n 0 then some (.int .i64 0, hp)
            else match stCells hp b o vs with
              | some hp' => some (.int .i64 n, hp')
              | none => none
          else none
        | _ => none
      | none => none
    | none => none
  | _ => none

theorem copyA_sound {P : Program} {φ : Ren} {hp hp' : Tr AObj} {w : World} (hw : WRel φ hp w) {t u ty : TypeId} {d d' x x' v : Value} (hd : VRel φ d d') (hx : VRel φ x x') (h : copyA P hp t d x = some (v, hp')) :
    ∃ w', (Builtin.copy_ #[t, u] ty #[d', x']).run P w = .ok v w' ∧ cst 0 v = true ∧ WRel φ hp' w' ∧ Ext φ hp w φ hp' w' := by
  unfold copyA at h
  split at h
  · rename_i e hu
    split at h
    · rename_i size hs
      split at h
      · rename_i n vs hsrc
        obtain ⟨vs', k1, k2⟩ := srcA_sound (P := P) hw hx hsrc
        have hlen := (k1.1 w rfl).1
        have hcel := (k1.1 w rfl).2
        split at h
        · rename_i b o len cap
          cases hb : Nat.ble n len with
          | false => simp [hb] at h
          | true =>
            simp only [hb, cond_true] at h
            have hle : n ≤ len := Nat.le_of_ble_eq_true hb
            have hmin : Nat.min n len = n := Nat.min_eq_left hle
            have run : ∀ (a : Addr) (c : Nat) (w' : World), (storeCells a vs').run P w = .ok () w' → (Builtin.copy_ #[t, u] ty #[.slice (some a) len c, x']).run P w = .ok (.int .i64 n) w' := by
              intro a c w' hst
              unfold Builtin.copy_
              simp [run_underlying hu, run_sizeOf hs, hlen, hmin, hcel, hst, goInt]
            cases hz : Nat.beq n 0 with
            | true =>
              simp only [hz, cond_true, Option.some.injEq, Prod.mk.injEq] at h
              obtain ⟨rfl, rfl⟩ := h
              have hn0 : n = 0 := Nat.eq_of_beq_eq_true hz
              subst hn0
              have hv0 : vs' = [] := List.eq_nil_of_length_eq_zero (by have := k1.2; omega)
              have hst : ∀ a : Addr, (storeCells a vs').run P w = .ok () w := fun a => by rw [hv0]; simp [storeCells]
              refine ⟨w, ?_, rfl, hw, Ext.refl _ _ _⟩
              cases hd <;> exact run _ _ _ (hst _)
            | false =>
              simp only [hz, cond_false] at h
              have hn0 : 0 < n := by
                rcases Nat.eq_zero_or_pos n with h0 | h0
                · rw [h0] at hz; cases hz
                · exact h0
              split at h
              · rename_i hp2 hst
                cases h
                have fin : ∀ (l : Loc) (c : Nat), φ b = some l → ∃ w', (Builtin.copy_ #[t, u] ty #[.slice (some ⟨l.blk, l.off + o, none⟩) len c, x']).run P w = .ok (.int .i64 n) w' ∧ cst 0 (Value.int .i64 n) = true ∧ WRel φ hp' w' ∧ Ext φ hp w φ hp' w' := by
                  intro l c hl
                  obtain ⟨w', g1, g2, g3⟩ := stCells_sound (P := P) hw k2 hst hl
                  exact ⟨w', run _ _ _ g1, rfl, g2, g3⟩
                cases hd with
                | slice hl _ => exact fin _ _ hl
                | @sopen _ _ _ x2 c2 l hl h1 h2 h3 h4 =>
                  rw [(h4 (by omega)).1]
                  exact fin _ _ hl
                | szero => omega
              · cases h
        · cases h
      · cases h
    · cases h
  · cases h

/-! ### Every operation that writes -/
def lop (P : Program) (ev : Operand → Option Value) (hp : Tr AObj) (nx : Nat) (op : Op) : Option (List Out) :=
  match op with
  | .store t a x => match ev a, ev x with
    | some u, some v => match storeA P hp t u v with
      | some hp' => some [⟨none, hp', nx⟩]
      | none => none
    | _, _ => none
  | .mapUpdate t m k x | .insert t m k x => match ev m, ev k, ev x with
    | some u, some v, some z => match mapUpdateA P hp t u v z with
      | some hp' => some [⟨none, hp', nx⟩]
      | none => none
    | _, _, _ => none
  | .next it isStr => match ev it with
    | some u => match nextA hp u isStr with
      | some l => some (l.map fun r => ⟨some r.1, r.2, nx⟩)
      | none => none
    | none => none
  | .entry it => match ev it with
    | some u => match entryA hp u with
      | some r => some [⟨some r, hp, nx⟩]
      | none => none
    | none => none
  | .call ⟨.builtin .append, args, ts⟩ => match evL ev args.toList, ts.toList with
    | some [u, v], [t1, t2] => match appA P hp nx t1 t2 u v with
      | some o => some [o]
      | none => none
    | _, _ => none
  | .call ⟨.builtin .unsafeString, args, ts⟩ => match evL ev args.toList, ts.toList with
    | some [u, v], [t1, _] => match strA P hp t1 u v with
      | some (r, hp') => some [⟨some r, hp', nx⟩]
      | none => none
    | _, _ => none
  | .call ⟨.builtin .copy, args, ts⟩ => match evL ev args.toList, ts.toList with
    | some [u, v], [t1, _] => match copyA P hp t1 u v with
      | some (r, hp') => some [⟨some r, hp', nx⟩]
      | none => none
    | _, _ => none
  | _ => none

theorem lop_sound {P : Program} {φ : Ren} {hp : Tr AObj} {w : World} {nx : Nat} {ev : Operand → Option Value} {ρ : Operand → Value} (hev : ∀ x u, ev x = some u → VRel φ u (ρ x)) (hw : WRel φ hp w) (hn : φ nx = none) {o : Oper} {outs : List Out}
    (h : lop P ev hp nx o.op = some outs) : LSound P φ hp w nx (execOp ρ o) outs := by
  obtain ⟨dst, op, ty, pos, after, guard⟩ := o
  simp only at h
  have wrote : ∀ (s : Sem Unit) (hp' : Tr AObj), (execOp ρ ⟨dst, op, ty, pos, after, guard⟩ = (do s; pure .skip)) → (∃ w', s.run P w = .ok () w' ∧ WRel φ hp' w' ∧ Ext φ hp w φ hp' w') → LSound P φ hp w nx (execOp ρ ⟨dst, op, ty, pos, after, guard⟩) [⟨none, hp', nx⟩] := by
    intro s hp' he ⟨w', h1, h2, h3⟩
    exact ⟨_, List.mem_singleton.2 rfl, φ, w', h3, h2, fun i hi => .inl hi, Nat.le_refl _, by simp only [he, Sem.run_bind, h1, Result.andThen_ok, Sem.run_pure]⟩
  unfold lop at h
  split at h
  case h_1 t a x =>
    split at h
    · rename_i u v ha hx
      split at h
      · rename_i hp' hs
        cases h
        exact wrote (Instr.storeAt t (ρ a) (ρ x)) hp' rfl (storeA_sound hw (hev _ _ ha) (hev _ _ hx) hs)
      · cases h
    · cases h
  case h_2 t m k x =>
    split at h
    · rename_i u v z hm hk hx
      split at h
      · rename_i hp' hs
        cases h
        exact wrote (Instr.mapUpdate t (ρ m) (ρ k) (ρ x)) hp' rfl (mapUpdateA_sound hw (hev _ _ hm) (hev _ _ hk) (hev _ _ hx) hs)
      · cases h
    · cases h
  case h_3 t m k x =>
    split at h
    · rename_i u v z hm hk hx
      split at h
      · rename_i hp' hs
        cases h
        exact wrote (Instr.mapUpdate t (ρ m) (ρ k) (ρ x)) hp' rfl (mapUpdateA_sound hw (hev _ _ hm) (hev _ _ hk) (hev _ _ hx) hs)
      · cases h
    · cases h
  case h_4 it isStr =>
    split at h
    · rename_i u hit
      split at h
      · rename_i l hl
        cases h
        obtain ⟨r, hr, v', w', g1, g2, g3, g4⟩ := nextA_sound (P := P) (ty := ty) hw (hev _ _ hit) hl
        exact ⟨_, List.mem_map.2 ⟨r, hr, rfl⟩, φ, w', g4, g3, fun i hi => .inl hi, Nat.le_refl _, v', by simp only [execOp, Sem.run_bind, g1, Result.andThen_ok, Sem.run_pure], g2⟩
      · cases h
    · cases h
  case h_5 it =>
    split at h
    · rename_i u hit
      split at h
      · rename_i r hr
        cases h
        obtain ⟨v', g1, g2⟩ := entryA_sound (P := P) hw (hev _ _ hit) hr
        exact ⟨_, List.mem_singleton.2 rfl, φ, w, Ext.refl _ _ _, hw, fun i hi => .inl hi, Nat.le_refl _, v', by simp only [execOp, Sem.run_bind, g1, Result.andThen_ok, Sem.run_pure], g2⟩
      · cases h
    · cases h
  case h_6 args ts =>
    split at h
    · rename_i u v t1 t2 hxs hts
      split at h
      · rename_i out ha
        cases h
        obtain ⟨u', v', e, r1, r2⟩ := lrel_two (evL_rel hev _ _ hxs)
        have e1 := map_toList e
        have e2 : ts = #[t1, t2] := by apply Array.ext'; simpa using hts
        obtain ⟨φ', w', va, vb, g0, g1, g2, g3, g4, g5, g6⟩ := appA_sound (P := P) (ty := ty) hw hn r1 r2 ha
        refine ⟨_, List.mem_singleton.2 rfl, φ', w', g2, g3, g4, g5, ?_⟩
        rw [g0]
        exact ⟨vb, by simp [execOp, resolve, invoke, builtin, e1, e2, g1], g6⟩
      · cases h
    · cases h
  case h_7 args ts =>
    split at h
    · rename_i u v t1 t2 hxs hts
      split at h
      · rename_i r hp' ha
        cases h
        obtain ⟨u', v', e, r1, r2⟩ := lrel_two (evL_rel hev _ _ hxs)
        have e1 := map_toList e
        have e2 : ts = #[t1, t2] := by apply Array.ext'; simpa using hts
        obtain ⟨w', g1, g2, g3, g4⟩ := strA_sound (P := P) (it := t2) (ty := ty) hw r1 r2 ha
        exact ⟨_, List.mem_singleton.2 rfl, φ, w', g4, g3, fun i hi => .inl hi, Nat.le_refl _, r, by simp [execOp, resolve, invoke, builtin, e1, e2, g1], cst_rel φ 0 r g2⟩
      · cases h
    · cases h
  case h_8 args ts =>
    split at h
    · rename_i u v t1 t2 hxs hts
      split at h
      · rename_i r hp' ha
        cases h
        obtain ⟨u', v', e, r1, r2⟩ := lrel_two (evL_rel hev _ _ hxs)
        have e1 := map_toList e
        have e2 : ts = #[t1, t2] := by apply Array.ext'; simpa using hts
        obtain ⟨w', g1, g2, g3, g4⟩ := copyA_sound (P := P) (u := t2) (ty := ty) hw r1 r2 ha
        exact ⟨_, List.mem_singleton.2 rfl, φ, w', g4, g3, fun i hi => .inl hi, Nat.le_refl _, r, by simp [execOp, resolve, invoke, builtin, e1, e2, g1], cst_rel φ 0 r g2⟩
      · cases h
    · cases h
  case h_9 => cases h

end Go.Proofs.YtkjkoejnicbieaaGreat.AM

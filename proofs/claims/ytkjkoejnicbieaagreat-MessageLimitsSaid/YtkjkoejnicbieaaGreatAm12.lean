/-
  THE ABSTRACT MACHINE, part 12: the next entry of a range.
-/
import Derived.Test.YtkjkoejnicbieaaGreatAm11
namespace Go.Proofs.YtkjkoejnicbieaaGreat.AM
open Go Go.RowKit

def seenHas (k : Value) : List Value → Bool
  | [] => false
  | s :: r => bif Instr.sameBits 10000 k s then true else seenHas k r

theorem seenHas_iff {k : Value} (hk : Instr.sameBits 10000 k k = true) : ∀ l : List Value, seenHas k l = true ↔ k ∈ l := by
  intro l
  induction l with
  | nil => simp [seenHas]
  | cons s r ih =>
    simp only [seenHas]
    cases h : Instr.sameBits 10000 k s with
    | true => simp [sameBits_eq _ _ _ h]
    | false =>
      simp only [cond_false, ih, List.mem_cons]
      constructor
      · exact .inr
      · rintro (rfl | h2)
        · rw [hk] at h; cases h
        · exact h2

/-- The entries that are still to come. -/
def leftA (seen : List Value) : List (Value × Value) → Option (List (Value × Value))
  | [] => some []
  | (k, v) :: r => bif cst 8 k && Instr.sameBits 10000 k k then
      match leftA seen r with
      | some l => some (bif seenHas k seen then l else (k, v) :: l)
      | none => none
    else none

theorem leftA_mem {seen : List Value} : ∀ (es l : List (Value × Value)), leftA seen es = some l → (∀ e ∈ es, cst 8 e.1 = true) ∧ ∀ e, e ∈ l ↔ e ∈ es ∧ e.1 ∉ seen := by
  intro es
  induction es with
  | nil => intro l h; simp [leftA] at h; subst h; simp
  | cons e es ih =>
    intro l h
    obtain ⟨k, v⟩ := e
    simp only [leftA] at h
    cases hc : (cst 8 k && Instr.sameBits 10000 k k) with
    | false => simp [hc] at h
    | true =>
      simp only [hc, cond_true] at h
      simp at hc
      cases hr : leftA seen es with
      | none => simp [hr] at h
      | some l0 =>
        simp only [hr, Option.some.injEq] at h
        obtain ⟨i1, i2⟩ := ih l0 hr
        have hs := seenHas_iff hc.2 seen
        refine ⟨?_, fun e => ?_⟩
        · intro e he
          rcases List.mem_cons.1 he with rfl | he
          · exact hc.1
          · exact i1 e he
        · cases hb : seenHas k seen with
          | true =>
            simp only [hb, cond_true] at h
            subst h
            rw [i2]
            constructor
            · rintro ⟨a, b⟩; exact ⟨by simp [a], b⟩
            · rintro ⟨a, b⟩
              rcases List.mem_cons.1 a with rfl | a
              · exact absurd (hs.1 hb) b
              · exact ⟨a, b⟩
          | false =>
            simp only [hb, cond_false] at h
            subst h
            rw [List.mem_cons, i2, List.mem_cons]
            have hn : k ∉ seen := fun hk => by rw [hs.2 hk] at hb; cases hb
            constructor
            · rintro (rfl | ⟨a, b⟩)
              · exact ⟨.inl rfl, hn⟩
              · exact ⟨.inr a, b⟩
            · rintro ⟨a | a, b⟩
              · exact .inl a
              · exact .inr ⟨a, b⟩

def nextA (hp : Tr AObj) (it : Value) (isStr : Bool) : Option (List (Value × Tr AObj)) :=
  match it with
  | .pointer (some ⟨r, 0, none⟩) => match hp.get r, isStr with
    | some (.siter s pos), true =>
      bif Nat.blt pos s.size then
        some [(.tuple #[.bool true, .int .i64 pos, .int .i32 (Utf8.decode s pos).1], hp.set r (some (.siter s (pos + (Utf8.decode s pos).2))))]
      else some [(.tuple #[.bool false], hp)]
    | some (.iter none _ _), false => some [(.tuple #[.bool false], hp)]
    | some (.iter (some m) ck seen), false => match hp.get m with
      | some (.map es ck2) => bif Nat.beq ck2 ck then
          match leftA seen es with
          | some [] => some [(.tuple #[.bool false], hp)]
          | some l => some (l.map fun e => (.tuple #[.bool true, e.1, e.2], hp.set r (some (.iter (some m) ck (e.1 :: seen)))))
          | none => none
        else none
      | _ => none
    | _, _ => none
  | _ => none

theorem all2_keys {φ : Ren} {es : List (Value × Value)} {p : List MapEntry} (h : All2 (fun (e : Value × Value) (m : MapEntry) => m.key = e.1 ∧ VRel φ e.2 m.val) es p) : p.map (·.key) = es.map (·.1) := by
  induction h with
  | nil => rfl
  | cons hh _ ih => simp [hh.1, ih]

theorem nodup_map_inj {α β : Type} {f : α → β} : ∀ {l : List α}, (l.map f).Nodup → ∀ {x y : α}, x ∈ l → y ∈ l → f x = f y → x = y := by
  intro l
  induction l with
  | nil => intro _ x y hx; simp at hx
  | cons a l ih =>
    intro h x y hx hy hf
    simp only [List.map_cons, List.nodup_cons] at h
    rcases List.mem_cons.1 hx with rfl | hx
    · rcases List.mem_cons.1 hy with rfl | hy
      · rfl
      · exact absurd (List.mem_map.2 ⟨y, hy, hf.symm⟩) h.1
    · rcases List.mem_cons.1 hy with rfl | hy
      · exact absurd (List.mem_map.2 ⟨x, (by assumption), hf⟩) h.1
      · exact ih h.2 hx hy hf

theorem VRel.triple {φ : Ren} {a b c a' b' c' : Value} (h1 : VRel φ a a') (h2 : VRel φ b b') (h3 : VRel φ c c') : VRel φ (.tuple #[a, b, c]) (.tuple #[a', b', c']) := by
  have := ((ARel.single h1).push h2).push h3
  exact .tuple this.1 this.2

theorem nextA_sound {P : Program} {φ : Ren} {hp : Tr AObj} {w : World} (hw : WRel φ hp w) {it it' : Value} (hit : VRel φ it it') {isStr : Bool} {ty : TypeId} {outs : List (Value × Tr AObj)} (h : nextA hp it isStr = some outs) :
    ∃ r ∈ outs, ∃ v' w', (Instr.next it' isStr ty).run P w = .ok v' w' ∧ VRel φ r.1 v' ∧ WRel φ r.2 w' ∧ Ext φ hp w φ r.2 w' := by
  have over : VRel φ (.tuple #[.bool false]) (.tuple #[.bool false]) := cst_rel φ 1 _ (by simp [cst])
  unfold nextA at h
  split at h
  · rename_i r
    cases hit with
    | @ptr _ _ l hl =>
      simp only [Nat.add_zero]
      split at h
      · rename_i s pos hg
        obtain ⟨ho, hb⟩ := hw.obj _ _ _ hg hl
        rw [ho]
        cases hlt : Nat.blt pos s.size with
        | true =>
          simp only [hlt, cond_true, Option.some.injEq] at h
          subst h
          have hlt' : pos < s.size := by simpa [Nat.blt_eq] using hlt
          obtain ⟨w', r1, r2⟩ := run_setObj_wr (P := P) hb (fun _ _ _ e => by cases e) (.stringIter s (pos + (Utf8.decode s pos).2))
          refine ⟨_, List.mem_singleton.2 rfl, .tuple #[.bool true, .int .i64 pos, .int .i32 (Utf8.decode s pos).1], w', ?_, (VRel.bool true).triple (.int _ _) (.int _ _), ?_, Ext.write hg hl rfl r2.other r2.os r2.tape r2.output r2.size⟩
          · simp only [Instr.next, getObj, Sem.run_bind, Sem.run, hb, Result.andThen_ok, if_pos hlt', r1, goInt]
            rfl
          · refine WRel.write hw hg hl rfl rfl r2.other (MapsStep.of_same fun k es ck hk => ?_) ⟨ho, r2.here⟩
            have hne : k ≠ l.blk := fun x => by subst x; rw [hb] at hk; cases hk
            rw [r2.other k hne]; exact hk
        | false =>
          simp only [hlt, cond_false, Option.some.injEq] at h
          subst h
          have hlt' : ¬ pos < s.size := fun x => by rw [← Nat.blt_eq, hlt] at x; cases x
          refine ⟨_, List.mem_singleton.2 rfl, .tuple #[.bool false], w, ?_, over, hw, Ext.refl _ _ _⟩
          simp only [Instr.next, getObj, Sem.run_bind, Sem.run, hb, Result.andThen_ok, if_neg hlt']
          rfl
      · rename_i c0 s0 hg
        cases h
        obtain ⟨ho, m', seen', hb, hm⟩ := hw.obj _ _ _ hg hl
        rw [ho]
        simp only at hm
        subst hm
        refine ⟨_, List.mem_singleton.2 rfl, .tuple #[.bool false], w, ?_, over, hw, Ext.refl _ _ _⟩
        simp [Instr.next, getObj, Sem.run, hb]
      · rename_i m ck seen hg
        split at h
        · rename_i es ck2 hgm
          cases hck : Nat.beq ck2 ck with
          | false => simp [hck] at h
          | true =>
            simp only [hck, cond_true] at h
            have hckeq := Nat.eq_of_beq_eq_true hck
            subst hckeq
            obtain ⟨ho, m', seen', hb, lm, hlm, hm', es', ck', hes, hle, hiff, _⟩ := hw.obj _ _ _ hg hl
            subst hm'
            rw [ho]
            obtain ⟨ea, he1, hrel⟩ := hw.obj _ _ _ hgm hlm
            rw [he1] at hes
            simp only [Option.some.injEq, Obj.map.injEq] at hes
            obtain ⟨rfl, rfl⟩ := hes
            obtain ⟨p, p1, p2, p3, p4, p5⟩ := hrel
            have hold : ∀ x ∈ ea.toList, x.born < ck2 := fun x hx => p4 x (p1.mem_iff.2 hx)
            have hiff' := hiff rfl
            cases hleft : leftA seen es with
            | none => simp [hleft] at h
            | some lft =>
              obtain ⟨q1, q2⟩ := leftA_mem es lft hleft
              rcases run_next_at (P := P) w ty l.blk lm.blk ck2 ck2 seen' ea ck2 hb he1 hold (Nat.le_refl _) with ⟨g1, g2⟩ | ⟨e, ge, w1, gw, g2⟩
              · -- nothing is left
                have hlnil : lft = [] := by
                  cases lft with
                  | nil => rfl
                  | cons x xs =>
                    exfalso
                    obtain ⟨hx1, hx2⟩ := (q2 x).1 (by simp)
                    obtain ⟨mm, hm1, hm2, _⟩ := All2.right p2 x hx1
                    have hmem := p1.mem_iff.1 hm1
                    have hnb : mm.born ∉ seen' := fun hh => hx2 (by rw [← hm2]; exact (hiff' mm hmem).1 hh)
                    have : mm ∈ (leftOf ea seen') := by
                      unfold leftOf
                      rw [Array.mem_filter]
                      exact ⟨by simpa using hmem, by simpa using hnb⟩
                    have h0 : leftOf ea seen' = #[] := Array.eq_empty_of_size_eq_zero g1
                    rw [h0] at this; simp at this
                subst hlnil
                simp only [hleft, Option.some.injEq] at h
                subst h
                exact ⟨_, List.mem_singleton.2 rfl, .tuple #[.bool false], w, g2, over, hw, Ext.refl _ _ _⟩
              · have ge' : e ∈ ea.toList ∧ e.born ∉ seen' := by
                  unfold leftOf at ge
                  have := Array.mem_toList_iff.1 ge
                  rw [Array.mem_filter] at this
                  exact ⟨by simpa using this.1, by simpa using this.2⟩
                obtain ⟨x, hx1, hx2, hx3⟩ := All2.left p2 e (p1.mem_iff.2 ge'.1)
                have hxl : x ∈ lft := (q2 x).2 ⟨hx1, fun hh => ge'.2 ((hiff' e ge'.1).2 (by rw [hx2]; exact hh))⟩
                have hout : outs = lft.map fun e => (.tuple #[.bool true, e.1, e.2], hp.set r (some (.iter (some m) ck2 (e.1 :: seen)))) := by
                  cases lft with
                  | nil => simp at hxl
                  | cons y ys => simp only [hleft, Option.some.injEq] at h; exact h.symm
                have hb1 : w1.heap[l.blk]? = some (.mapIter (some lm.blk) ck2 seen' ck2) := by rcases gw with rfl | rfl <;> exact hb
                have hset := wr_set w1 hb1 (.mapIter (some lm.blk) ck2 (seen'.push e.born) ck2)
                have hset2 : Wr w (Go.ChangeMaps.setBlock w1 l.blk (.mapIter (some lm.blk) ck2 (seen'.push e.born) ck2)) l.blk (.mapIter (some lm.blk) ck2 (seen'.push e.born) ck2) := by
                  rcases gw with rfl | rfl
                  · exact hset
                  · exact Wr.drew hset
                refine ⟨_, by rw [hout]; exact List.mem_map.2 ⟨x, hxl, rfl⟩, .tuple #[.bool true, e.key, e.val], _, g2, ?_, ?_, Ext.write hg hl rfl hset2.other hset2.os hset2.tape hset2.output hset2.size⟩
                · exact (VRel.bool true).triple (by rw [hx2]; exact cst_rel φ 8 _ (q1 x hx1)) hx3
                · have hne : lm.blk ≠ l.blk := fun hh => by rw [hh, hb] at he1; cases he1
                  refine WRel.write hw hg hl rfl rfl hset2.other (MapsStep.of_same fun k es ck hk => ?_) ⟨ho, some lm.blk, _, hset2.here, lm, hlm, rfl, ea, ck2, (hset2.other _ hne).trans he1, Nat.le_refl _, fun _ y hy => ?_, fun k rest hk => ?_⟩
                  · have hne : k ≠ l.blk := fun x => by subst x; rw [hb] at hk; cases hk
                    rw [hset2.other k hne]; exact hk
                  · rw [Array.mem_push, List.mem_cons, hiff' y hy]
                    constructor
                    · rintro (h1 | h1)
                      · exact .inr h1
                      · left
                        -- stamps tell entries apart
                        have hnd : (ea.toList.map (·.born)).Nodup := (p1.map _).nodup_iff.1 p3
                        have : y = e := by
                          exact nodup_map_inj hnd hy ge'.1 h1
                        rw [this, hx2]
                    · rintro (h1 | h1)
                      · right
                        -- keys tell entries apart
                        have hkeys : p.map (·.key) = es.map (·.1) := all2_keys p2
                        have hnd : (ea.toList.map (·.key)).Nodup := (p1.map _).nodup_iff.1 (by rw [hkeys]; exact p5)
                        have : y = e := nodup_map_inj hnd hy ge'.1 (by rw [h1, hx2])
                        rw [this]
                      · exact .inl h1
                  · rw [List.cons.injEq] at hk
                    refine ⟨e.born, by simp, fun _ y hy hky => ?_⟩
                    have hkeys : p.map (·.key) = es.map (·.1) := all2_keys p2
                    have hnd : (ea.toList.map (·.key)).Nodup := (p1.map _).nodup_iff.1 (by rw [hkeys]; exact p5)
                    have : y = e := nodup_map_inj hnd hy ge'.1 (by rw [hky, ← hk.1, hx2])
                    rw [this]
        · cases h
      · cases h
  · cases h

/-! ### The entry that a range over a map stands at -/
def entryA (hp : Tr AObj) (it : Value) : Option Value :=
  match it with
  | .pointer (some ⟨r, 0, none⟩) => match hp.get r with
    | some (.iter (some m) ck (k :: _)) => match hp.get m with
      | some (.map es ck2) => bif Nat.beq ck2 ck && cst 8 k then
          match es.find? (fun e => valEq 12 k e.1) with
          | some e => some (.tuple #[k, e.2])
          | none => none
        else none
      | _ => none
    | _ => none
  | _ => none

theorem entryA_sound {P : Program} {φ : Ren} {hp : Tr AObj} {w : World} (hw : WRel φ hp w) {it it' v : Value} (hi : VRel φ it it') (h : entryA hp it = some v) :
    ∃ v', (Instr.entry it').run P w = .ok v' w ∧ VRel φ v v' := by
  unfold entryA at h
  split at h
  · rename_i r
    cases hi with
    | @ptr _ _ l hl =>
    split at h
    · rename_i m ck k rest hg
      split at h
      · rename_i es ck2 hgm
        cases hc : (Nat.beq ck2 ck && cst 8 k) with
        | false => simp [hc] at h
        | true =>
          simp only [hc, cond_true] at h
          simp only [Bool.and_eq_true] at hc
          obtain ⟨hck, hcst⟩ := hc
          obtain rfl := Nat.eq_of_beq_eq_true hck
          split at h
          · rename_i e hf
            cases h
            obtain ⟨ho, m', seen', hb, lm, hlm, hm', es', ck', hes, hle, hiff, hlast⟩ := hw.obj _ _ _ hg hl
            subst hm'
            obtain ⟨ea, he1, hrel⟩ := hw.obj _ _ _ hgm hlm
            rw [he1] at hes
            simp only [Option.some.injEq, Obj.map.injEq] at hes
            obtain ⟨rfl, rfl⟩ := hes
            obtain ⟨p, p1, p2, p3, p4, p5⟩ := hrel
            have hmem := List.mem_of_find?_eq_some hf
            have hkey := valEq_eq _ _ _ (List.find?_some (p := fun e : Value × Value => valEq 12 k e.1) hf)
            obtain ⟨y, hy1, hy2, hy3⟩ := All2.right p2 e hmem
            have hya : y ∈ ea.toList := p1.mem_iff.1 hy1
            obtain ⟨b, hb1, hb2⟩ := hlast k rest rfl
            have hyb : y.born = b := hb2 rfl y hya (by rw [hy2, hkey])
            have hnd : (ea.toList.map (·.born)).Nodup := (p1.map _).nodup_iff.1 p3
            have hfind : ea.find? (fun x => x.born == b) = some y := by
              rw [← Array.find?_toList]
              cases hq : ea.toList.find? (fun x => x.born == b) with
              | none =>
                have := List.find?_eq_none.1 hq y hya
                simp [hyb] at this
              | some z =>
                have h1 := List.mem_of_find?_eq_some hq
                have h2 := List.find?_some hq
                simp only [beq_iff_eq] at h2
                rw [nodup_map_inj hnd h1 hya (by rw [h2, hyb])]
            refine ⟨.tuple #[y.key, y.val], ?_, ?_⟩
            · rw [ho]
              simp [Instr.entry, getObj, Sem.run, hb, hb1, he1, hfind]
            · rw [hy2, ← hkey]
              have := (ARel.single (cst_rel φ 8 k hcst)).push hy3
              exact .tuple this.1 this.2
          · cases h
      · cases h
    · cases h
  · cases h

end Go.Proofs.YtkjkoejnicbieaaGreat.AM

/-
  THE ABSTRACT MACHINE, part 11: stores into maps; the next entry of a range.
-/
import Derived.Test.YtkjkoejnicbieaaGreatAm10
namespace Go.Proofs.YtkjkoejnicbieaaGreat.AM
open Go Go.RowKit

/-- Where an operation that writes ends: what it gives, if anything; memory; how many numbers are taken. -/
structure Out where
  v : Option Value
  hp : Tr AObj
  nx : Nat

/-- What the model does at an operation that writes. -/
def LSound (P : Program) (φ : Ren) (hp : Tr AObj) (w : World) (nx : Nat) (s : Sem Next) (outs : List Out) : Prop :=
  ∃ r ∈ outs, ∃ φ' w', Ext φ hp w φ' r.hp w' ∧ WRel φ' r.hp w' ∧ (∀ i, φ' i ≠ none → φ i ≠ none ∨ (nx ≤ i ∧ i < r.nx)) ∧ nx ≤ r.nx ∧
    match r.v with
    | some v => ∃ v', s.run P w = .ok (.value v') w' ∧ VRel φ' v v'
    | none => s.run P w = .ok .skip w'

/-! ### Keys: what is found equal is the same; what is the same is found equal -/
theorem bytes_eq {a b : ByteArray} (h : (a == b) = true) : a = b := by
  rw [beq_toListBytes, ByteArray.toList_eq, ByteArray.toList_eq] at h
  simp at h
  exact ByteArray.ext h

theorem sameBits_eq : ∀ (n : Nat) (a b : Value), Instr.sameBits n a b = true → a = b := by
  intro n
  induction n with
  | zero =>
    intro a b h
    cases a <;> cases b <;> simp only [Instr.sameBits, reduceCtorEq, Bool.false_eq_true] at h <;> first | (rw [bytes_eq h]; done) | simp_all
  | succ n ih =>
    intro a b h
    cases a <;> cases b <;> simp only [Instr.sameBits, reduceCtorEq, Bool.false_eq_true] at h <;> first
      | (rw [bytes_eq h]; done)
      | (simp_all; done)
      | (simp at h; obtain ⟨rfl, h2⟩ := h; rw [ih _ _ h2]; done)
      | skip
    rename_i x y
    simp at h
    obtain ⟨hs, hall⟩ := h
    congr 1
    apply Array.ext hs
    intro i h1 h2
    refine ih _ _ (hall x[i] y[i] ?_)
    rw [List.mem_iff_getElem]
    exact ⟨i, by simp; omega, by simp⟩

theorem eqIn_refl' (P : Program) : ∀ (d : Nat) (t : TypeId) (x y : Value) (b : Bool), x = y → eqIn P d t x y = some b → b = true := by
  intro d
  induction d with
  | zero => intro t x y b _ h; simp [eqIn] at h
  | succ d ih =>
    intro t x y b hxy h
    simp only [eqIn] at h
    have strefl : ∀ l : List UInt8, strEq l l = true := by
      intro l
      rw [← strEq_eq]; simp
    split at h
    · cases hxy; simpa using h.symm
    · cases hxy; simpa using h.symm
    · cases hxy; rw [strefl] at h; simpa using h.symm
    · rename_i fields xs ys hu
      cases hxy
      split at h
      · cases h
      · generalize fields.toList = fs at h
        induction fs generalizing b with
        | nil => simp [eqFieldsA] at h; exact h
        | cons f fs ihf =>
          simp only [eqFieldsA] at h
          split at h
          · split at h
            · rename_i a1 a2 ha1 ha2
              rw [ha1] at ha2
              have ha3 := Option.some.inj ha2
              split at h
              · exact ihf b h
              · exact ih _ _ _ _ ha3 h
            · cases h
          · exact ihf b h
    · rename_i len e xs ys hu
      cases hxy
      split at h
      · rename_i n hs
        generalize 0 = i0 at h
        clear hu
        induction len generalizing i0 b with
        | zero => simp [eqElemsA] at h; exact h
        | succ m ihm =>
          simp only [eqElemsA] at h
          split at h
          · rename_i a1 a2 ha1 ha2
            rw [ha1] at ha2
            have ha3 := Option.some.inj ha2
            split at h
            · exact ihm b _ h
            · exact ih _ _ _ _ ha3 h
          · cases h
      · cases h
    · cases h

theorem eqIn_refl (P : Program) (d : Nat) (t : TypeId) (x : Value) (b : Bool) (h : eqIn P d t x x = some b) : b = true := eqIn_refl' P d t x x b rfl h

theorem updA_keys {P : Program} {kt : TypeId} {k v : Value} : ∀ (es es2 : List (Value × Value)), updA P kt k v es = some es2 → es2.map (·.1) = es.map (·.1) := by
  intro es
  induction es with
  | nil => intro es2 h; simp [updA] at h; subst h; rfl
  | cons e es ih =>
    intro es2 h
    obtain ⟨k0, v0⟩ := e
    simp only [updA] at h
    cases hr : updA P kt k v es with
    | none => simp [hr] at h
    | some r' =>
      have ih' := ih r' hr
      simp only [hr] at h
      split at h
      · cases hs : Instr.sameBits 10000 k0 k with
        | false => simp [hs] at h
        | true =>
          simp only [hs, cond_true, Option.some.injEq] at h
          subst h
          simp [ih', sameBits_eq _ _ _ hs]
      · cases h; simp [ih']

def mapUpdateA (P : Program) (hp : Tr AObj) (t : TypeId) (m k v : Value) : Option (Tr AObj) :=
  match P.underlying t with
  | some (.map kt _) => match m with
    | .map (some r) => match hp.get r with
      | some (.map es ck) => bif cst 8 k && ckA P 10000 kt k && (P.underlying kt).isSome then
          match hits P kt k es with
          | some [] => some (hp.set r (some (.map (es ++ [(k, v)]) (ck + 1))))
          | some [_] => match updA P kt k v es with
            | some es2 => some (hp.set r (some (.map es2 ck)))
            | none => none
          | _ => none
        else none
      | _ => none
    | _ => none
  | _ => none

theorem run_setMap {P : Program} {w : World} {r : Nat} {es : Array MapEntry} {ck : Nat} (h : w.heap[r]? = some (.map es ck)) (o : Obj) : ∃ w', (setObj r o).run P w = .ok () w' ∧ Wr w w' r o :=
  run_setObj_wr h (fun _ _ _ e => by cases e) o

theorem mapUpdateA_sound {P : Program} {φ : Ren} {hp hp' : Tr AObj} {w : World} (hw : WRel φ hp w) {t : TypeId} {m m' k k' v v' : Value} (hm : VRel φ m m') (hk : VRel φ k k') (hv : VRel φ v v') (h : mapUpdateA P hp t m k v = some hp') :
    ∃ w', (Instr.mapUpdate t m' k' v').run P w = .ok () w' ∧ WRel φ hp' w' ∧ Ext φ hp w φ hp' w' := by
  unfold mapUpdateA at h
  split at h
  · rename_i kt et hu
    split at h
    · rename_i r
      split at h
      · rename_i es ck hg
        cases hc : (cst 8 k && ckA P 10000 kt k && (P.underlying kt).isSome) with
        | false => simp [hc] at h
        | true =>
          simp only [hc, cond_true] at h
          simp at hc
          obtain ⟨⟨hcst, hck⟩, hsome⟩ := hc
          obtain ⟨d, hd⟩ := Option.isSome_iff_exists.1 hsome
          obtain rfl := cst_eq hcst hk
          cases hm with
          | @map _ l hl =>
            obtain ⟨ea, h1, hrel⟩ := hw.obj _ _ _ hg hl
            have ckr : ∀ em, (Instr.checkKey em 10000 kt k').run P w = .ok () w := fun em => ckA_sound em 10000 kt k' hck
            cases hh : hits P kt k' es with
            | none => simp [hh] at h
            | some lst =>
              simp only [hh] at h
              obtain ⟨f1, f2, f3⟩ := find_sound hd hcst hrel hh w
              cases lst with
              | nil =>
                simp only [Option.some.injEq] at h
                subst h
                obtain ⟨w', r1, r2⟩ := run_setMap (P := P) h1 (.map (ea.push { key := k', val := v', born := ck }) (ck + 1))
                refine ⟨w', ?_, ?_, Ext.write hg hl rfl r2.other r2.os r2.tape r2.output r2.size⟩
                · simp only [Instr.mapUpdate, Sem.run_bind, run_underlying hu, Result.andThen_ok]
                  simp only [getObj, Sem.run, h1, Sem.run_bind, ckr, Result.andThen_ok, f1, f2 rfl]
                  exact r1
                · refine WRel.write hw (o := .map es ck) hg hl rfl rfl r2.other ?_ ⟨_, r2.here, ?_⟩
                  · intro j es1 ck1 hj
                    by_cases e : j = l.blk
                    · subst e
                      rw [h1] at hj
                      cases hj
                      exact ⟨_, _, r2.here, by omega, fun he => by omega⟩
                    · exact ⟨es1, ck1, (r2.other j e).trans hj, Nat.le_refl _, fun _ x hx => ⟨x, hx, rfl, rfl⟩⟩
                  · obtain ⟨p, p1, p2, p3, p4, p5⟩ := hrel
                    refine ⟨p ++ [{ key := k', val := v', born := ck }], ?_, p2.append (.cons ⟨rfl, hv⟩ .nil), ?_, ?_, ?_⟩
                    · rw [Array.toList_push]; exact p1.append_right _
                    · simp only [List.map_append, List.map_cons, List.map_nil]
                      rw [List.nodup_append]
                      refine ⟨p3, by simp, ?_⟩
                      intro a ha b hb
                      simp at hb
                      subst hb
                      obtain ⟨x, hx, rfl⟩ := List.mem_map.1 ha
                      have := p4 x hx
                      omega
                    · intro x hx
                      rcases List.mem_append.1 hx with hx | hx
                      · have := p4 x hx; omega
                      · simp at hx; subst hx; simp
                    · simp only [List.map_append, List.map_cons, List.map_nil]
                      rw [List.nodup_append]
                      refine ⟨p5, by simp, ?_⟩
                      intro a ha b hb
                      simp at hb
                      rw [hb]
                      obtain ⟨x, hx, rfl⟩ := List.mem_map.1 ha
                      intro hab
                      -- the key would have been found
                      obtain ⟨a1, a2, _⟩ := hits_all es [] hh
                      obtain ⟨⟨q, hq⟩, _⟩ := a1 x hx
                      have hq2 := hq
                      rw [hab] at hq2
                      have := eqIn_refl P 10000 kt k' q hq2
                      subst this
                      exact absurd (a2 x hx hq) (by simp)
              | cons v0 lst =>
                cases lst with
                | cons v1 lst => simp at h
                | nil =>
                  simp only at h
                  cases hup : updA P kt k' v es with
                  | none => simp [hup] at h
                  | some es2 =>
                    simp [hup] at h
                    subst h
                    obtain ⟨j, v2, g1, _⟩ := f3 v0 rfl
                    obtain ⟨p, p1, p2, p3, p4, p5⟩ := hrel
                    obtain ⟨_, mm, m1, m2, _⟩ := firstHit_some ea.toList 0 j v2 g1
                    simp only [Nat.sub_zero] at m1
                    have hcount : (ea.toList.filter fun m => decide (keyEq P kt k' m.key = some true)).length = 1 := by
                      rw [← (p1.filter _).length_eq, all2_count p2, hits_count es _ hh]; rfl
                    -- the key that is there
                    have hkey : mm.key = k' := by
                      obtain ⟨e, he, hke, _⟩ := All2.left p2 mm (p1.mem_iff.2 (List.mem_of_getElem? m1))
                      have := updA_same es es2 hup e he (by rw [← hke]; exact m2)
                      rw [hke]; exact sameBits_eq _ _ _ this
                    have hsame : Instr.sameBits 10000 mm.key k' = true := by
                      obtain ⟨e, he, hke, _⟩ := All2.left p2 mm (p1.mem_iff.2 (List.mem_of_getElem? m1))
                      rw [hke]; exact updA_same es es2 hup e he (by rw [← hke]; exact m2)
                    have hmod : (ea.modify j fun e => { e with key := k', val := v' }).toList = ea.toList.map (updE P kt k' v') := by
                      rw [Array.toList_modify, modify_only (q := fun m => decide (keyEq P kt k' m.key = some true)) ea.toList j mm hcount m1 (by simpa using m2)]
                      apply List.map_congr_left
                      intro x _
                      simp [updE]
                    have hborn : ∀ x : MapEntry, (updE P kt k' v' x).born = x.born := fun x => by unfold updE; split <;> rfl
                    obtain ⟨w', r1, r2⟩ := run_setMap (P := P) h1 (.map (ea.modify j fun e => { e with key := k', val := v' }) ck)
                    refine ⟨w', ?_, ?_, Ext.write hg hl rfl r2.other r2.os r2.tape r2.output r2.size⟩
                    · have hold : ((ea[j]?).map (·.key)).getD k' = k' := by
                        have : ea[j]? = some mm := by simpa using m1
                        simp [this, hkey]
                      have hkt : Instr.sameBits 10000 k' k' = true := by rw [← hkey] at hsame ⊢; exact hsame
                      simp only [Instr.mapUpdate, Sem.run_bind, run_underlying hu, Result.andThen_ok]
                      simp only [getObj, Sem.run, h1, Sem.run_bind, ckr, Result.andThen_ok, f1, g1, hold, Instr.keyThatStays, hkt, if_true, Sem.run_pure]
                      exact r1
                    · refine WRel.write hw (o := .map es ck) hg hl rfl rfl r2.other ?_ ⟨_, r2.here, ?_⟩
                      · intro i es1 ck1 hj
                        by_cases e : i = l.blk
                        · subst e
                          rw [h1] at hj
                          cases hj
                          refine ⟨_, _, r2.here, Nat.le_refl _, fun _ x hx => ?_⟩
                          rw [hmod] at hx
                          obtain ⟨y, hy, rfl⟩ := List.mem_map.1 hx
                          refine ⟨y, hy, (hborn y).symm, ?_⟩
                          unfold updE
                          split
                          · rename_i hyk
                            obtain ⟨e, he, hke, _⟩ := All2.left p2 y (p1.mem_iff.2 hy)
                            have := updA_same es es2 hup e he (by rw [← hke]; exact hyk)
                            rw [hke]; exact sameBits_eq _ _ _ this
                          · rfl
                        · exact ⟨es1, ck1, (r2.other i e).trans hj, Nat.le_refl _, fun _ x hx => ⟨x, hx, rfl, rfl⟩⟩
                      · refine ⟨p.map (updE P kt k' v'), ?_, updA_rel hv es es2 p hup p2, ?_, ?_, ?_⟩
                        · rw [hmod]; exact p1.map _
                        · rw [List.map_map]
                          have : ((fun x : MapEntry => x.born) ∘ updE P kt k' v') = fun x => x.born := funext hborn
                          rw [this]; exact p3
                        · intro x hx
                          obtain ⟨y, hy, rfl⟩ := List.mem_map.1 hx
                          rw [hborn]; exact p4 y hy
                        · rw [updA_keys es es2 hup]; exact p5
      · cases h
    · cases h
  · cases h

end Go.Proofs.YtkjkoejnicbieaaGreat.AM

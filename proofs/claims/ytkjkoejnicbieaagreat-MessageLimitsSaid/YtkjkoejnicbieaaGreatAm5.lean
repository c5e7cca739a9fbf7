/-
  THE ABSTRACT MACHINE, part 5: addresses, slices, indexes, lengths.
-/
import Derived.Test.YtkjkoejnicbieaaGreatAm4
namespace Go.Proofs.YtkjkoejnicbieaaGreat.AM
open Go Go.RowKit

/-! ### Slice expressions -/
def natV : Value → Option Nat
  | .int _ n => if 0 ≤ n then some n.toNat else none
  | _ => none

theorem natV_eq {v : Value} {n : Nat} (h : natV v = some n) : ∃ k, v = .int k (n : Int) := by
  unfold natV at h
  split at h
  · rename_i k m
    split at h
    · rename_i hm
      cases h
      exact ⟨k, by rw [Int.toNat_of_nonneg hm]⟩
    · cases h
  · cases h

/-- The three bounds of a slice expression, where they are in order. -/
def boundsA (len cap : Nat) (lo hi mx : Option Value) : Option (Nat × Nat × Nat) :=
  match (match mx with | none => some cap | some v => natV v) with
  | none => none
  | some m => match (match hi with | none => (match mx with | none => some len | some _ => none) | some v => natV v) with
    | none => none
    | some h => match (match lo with | none => some 0 | some v => natV v) with
      | none => none
      | some l => bif Nat.ble l h && Nat.ble h m && Nat.ble m cap then some (l, h, m) else none

theorem boundsA_le {len cap : Nat} {lo hi mx : Option Value} {l h m : Nat} (e : boundsA len cap lo hi mx = some (l, h, m)) : l ≤ h ∧ h ≤ m ∧ m ≤ cap ∧ (mx = none → m = cap) := by
  unfold boundsA at e
  split at e
  · cases e
  · rename_i m' hm
    split at e
    · cases e
    · rename_i h' hh
      split at e
      · cases e
      · rename_i l' hl
        cases hb : (Nat.ble l' h' && Nat.ble h' m' && Nat.ble m' cap) with
        | false => simp [hb] at e
        | true =>
          simp [hb] at e
          obtain ⟨rfl, rfl, rfl⟩ := e
          simp at hb
          refine ⟨hb.1.1, hb.1.2, hb.2, fun hx => ?_⟩
          subst hx
          simpa using hm.symm

theorem run_bounds {P : Program} (w : World) (isSlice : Bool) {len cap cap' : Nat} {lo hi mx : Option Value} {l h m : Nat} (e : boundsA len cap lo hi mx = some (l, h, m))
    (hc : mx = none → h ≤ cap') (hc' : m ≤ cap' ∨ mx = none) : (Instr.sliceBounds isSlice len cap' lo hi mx).run P w = .ok (l, h, (if mx = none then cap' else m)) w := by
  obtain ⟨hlh, hhm, hmc, hmx⟩ := boundsA_le e
  unfold boundsA at e
  split at e
  · cases e
  · rename_i m' hm
    split at e
    · cases e
    · rename_i h' hh
      split at e
      · cases e
      · rename_i l' hl
        cases hb : (Nat.ble l' h' && Nat.ble h' m' && Nat.ble m' cap) with
        | false => simp [hb] at e
        | true =>
          simp [hb] at e
          obtain ⟨rfl, rfl, rfl⟩ := e
          have bound : ∀ (v : Value) (n y : Nat) (c : BoundsCode), natV v = some n → n ≤ y → (Instr.sliceBound v y c).run P w = .ok n w := by
            intro v n y c hv hy
            obtain ⟨k, rfl⟩ := natV_eq hv
            rw [run_sliceBound w k n y c (by omega) (by omega)]
            simp
          unfold Instr.sliceBounds
          cases mx with
          | none =>
            have hcc := hc rfl
            cases hi with
            | none =>
              simp at hh; subst hh
              cases lo with
              | none => simp at hl; subst hl; simp
              | some vl => simp at hl; simp [bound vl l' len _ hl hlh]
            | some vh =>
              simp at hh
              cases lo with
              | none => simp at hl; subst hl; simp [bound vh h' cap' _ hh hcc]
              | some vl => simp at hl; simp [bound vh h' cap' _ hh hcc, bound vl l' h' _ hl hlh]
          | some vm =>
            have hcc : m' ≤ cap' := hc'.resolve_right (by simp)
            simp at hm
            cases hi with
            | none => simp at hh
            | some vh =>
              simp at hh
              cases lo with
              | none => simp at hl; subst hl; simp [bound vm m' cap' _ hm hcc, bound vh h' m' _ hh hhm]
              | some vl => simp at hl; simp [bound vm m' cap' _ hm hcc, bound vh h' m' _ hh hhm, bound vl l' h' _ hl hlh]

theorem natV_rel {φ : Ren} {v v' : Value} {n : Nat} (hr : VRel φ v v') (h : natV v = some n) : v' = v := by
  obtain ⟨k, rfl⟩ := natV_eq h
  cases hr; rfl

/-- Options of values. -/
def ORelV (φ : Ren) : Option Value → Option Value → Prop
  | none, none => True
  | some a, some b => VRel φ a b
  | _, _ => False

theorem boundsA_same {φ : Ren} {len cap : Nat} {lo hi mx lo' hi' mx' : Option Value} {r : Nat × Nat × Nat} (h1 : ORelV φ lo lo') (h2 : ORelV φ hi hi') (h3 : ORelV φ mx mx') (e : boundsA len cap lo hi mx = some r) :
    lo' = lo ∧ hi' = hi ∧ mx' = mx := by
  unfold boundsA at e
  split at e
  · cases e
  · rename_i m hm
    split at e
    · cases e
    · rename_i h hh
      split at e
      · cases e
      · rename_i l hl
        refine ⟨?_, ?_, ?_⟩
        · cases lo <;> cases lo' <;> simp [ORelV] at h1 <;> first | rfl | (simp at hl; rw [natV_rel h1 hl])
        · cases hi <;> cases hi' <;> simp [ORelV] at h2 <;> first | rfl | (simp at hh; rw [natV_rel h2 hh])
        · cases mx <;> cases mx' <;> simp [ORelV] at h3 <;> first | rfl | (simp at hm; rw [natV_rel h3 hm])

/-- How many cells an element of the row at an abstract block takes. -/
def rowSz (hp : Tr AObj) (b : Nat) : Option Nat :=
  match hp.get b with
  | some (.cells _ _ sz _ _ _) => some sz
  | _ => none

def sliceA (P : Program) (hp : Tr AObj) (t : TypeId) (x : Value) (lo hi mx : Option Value) : Option Value :=
  match P.underlying t with
  | some .string => match x with
    | .string s => match mx with
      | some _ => none
      | none => match boundsA s.size s.size lo hi none with
        | some (l, h, _) => some (.string ⟨((s.data.toList.drop l).take (h - l)).toArray⟩)
        | none => none
    | _ => none
  | some (.slice e) => match szOf P e with
    | none => none
    | some size => match x with
      | .slice none len cap => match boundsA len cap lo hi mx with
        | some (l, h, m) => some (.slice none (h - l) (m - l))
        | none => none
      | .slice (some ⟨b, o, none⟩) len cap =>
        bif Nat.blt cap OPEN then
          match boundsA len cap lo hi mx with
          | some (l, h, m) => bif Nat.beq m l then some (.slice (some ⟨b, o, none⟩) 0 0) else some (.slice (some ⟨b, o + l * size, none⟩) (h - l) (m - l))
          | none => none
        else bif Nat.beq cap OPEN && rowSz hp b == some size then
          match boundsA len len lo hi mx with
          | some (l, h, m) => match mx with
            | none => some (.slice (some ⟨b, o + l * size, none⟩) (h - l) OPEN)
            | some _ => bif Nat.beq m l then some (.slice (some ⟨b, o, none⟩) 0 0) else bif Nat.blt m OPEN then some (.slice (some ⟨b, o + l * size, none⟩) (h - l) (m - l)) else none
          | none => none
        else none
      | _ => none
  | some (.array n e) => match x with
    | .pointer (some ⟨b, o, none⟩) => match szOf P e with
      | none => none
      | some size => match boundsA n n lo hi mx with
        | some (l, h, m) => bif Nat.beq m l then some (.slice (some ⟨b, o, none⟩) 0 0) else bif Nat.blt m OPEN then some (.slice (some ⟨b, o + l * size, none⟩) (h - l) (m - l)) else none
        | none => none
    | _ => none
  | _ => none

theorem addr_add (b o n : Nat) : Addr.add ⟨b, o, none⟩ n = ⟨b, o + n, none⟩ := Addr.add_lit b o n

theorem rowSz_sound {φ : Ren} {hp : Tr AObj} {w : World} (hw : WRel φ hp w) {b n : Nat} (h : rowSz hp b = some n) {l : Loc} (hl : φ b = some l) : l.sz = n := by
  unfold rowSz at h
  cases hg : hp.get b with
  | none => simp [hg] at h
  | some ob =>
    cases ob <;> simp [hg] at h
    subst h
    obtain ⟨c', fr, _, h0, _⟩ := hw.obj _ _ _ hg hl
    exact h0

theorem sliceA_sound {P : Program} {φ : Ren} {hp : Tr AObj} {w : World} (hw : WRel φ hp w) {t : TypeId} {x x' : Value} (hx : VRel φ x x') {lo hi mx lo' hi' mx' : Option Value} (h1 : ORelV φ lo lo') (h2 : ORelV φ hi hi') (h3 : ORelV φ mx mx')
    {v : Value} (h : sliceA P hp t x lo hi mx = some v) : ∃ v', (Instr.sliceAt t x' lo' hi' mx').run P w = .ok v' w ∧ VRel φ v v' := by
  unfold sliceA at h
  split at h
  · rename_i hu
    split at h
    · rename_i s
      split at h
      · cases h
      · split at h
        · rename_i l hh m e
          obtain ⟨rfl, rfl, rfl⟩ := boundsA_same h1 h2 h3 e
          obtain ⟨a1, a2, a3, a4⟩ := boundsA_le e
          cases h
          cases hx
          refine ⟨.string (s.extract l hh), ?_, ?_⟩
          · have := run_bounds (P := P) w false e (cap' := s.size) (fun _ => by omega) (.inr rfl)
            simp [Instr.sliceAt, run_underlying hu, Instr.slice, this]
          · have : s.extract l hh = ⟨((s.data.toList.drop l).take (hh - l)).toArray⟩ := by
              apply ByteArray.ext
              apply Array.ext'
              rw [ByteArray.data_extract, Array.toList_extract]
            rw [this]; constructor
        · cases h
    · cases h
  · rename_i e hu
    split at h
    · cases h
    · rename_i size hsz
      have rs := run_sizeOf hsz
      -- what the model does at a slice of a slice
      have runs : ∀ (a : Option Addr) (len cap l hh m : Nat), (Instr.sliceBounds true len cap lo' hi' mx').run P w = .ok (l, hh, m) w →
          (Instr.sliceAt t (.slice a len cap) lo' hi' mx').run P w = .ok (.slice (if m = l then a else a.map (·.add (l * size))) (hh - l) (m - l)) w := by
        intro a len cap l hh m hb
        simp only [Instr.sliceAt, Sem.run_bind, run_underlying hu, Result.andThen_ok, Instr.slice, hb, rs, Sem.run_pure]
      split at h
      · rename_i len cap
        split at h
        · rename_i l hh m eb
          obtain ⟨rfl, rfl, rfl⟩ := boundsA_same h1 h2 h3 eb
          obtain ⟨a1, a2, a3, a4⟩ := boundsA_le eb
          cases h
          cases hx
          have := run_bounds (P := P) w true eb (cap' := cap) (fun _ => by omega) (.inl (by omega))
          have hm2 : (if mx' = none then cap else m) = m := by
            split
            · rename_i hn; exact (a4 hn).symm
            · rfl
          rw [hm2] at this
          refine ⟨_, runs _ _ _ _ _ _ this, ?_⟩
          split <;> exact .snil _ _
        · cases h
      · rename_i b o len cap
        cases hcap : Nat.blt cap OPEN with
        | true =>
          simp only [hcap, cond_true] at h
          have hcap' : cap < OPEN := by simpa [Nat.blt_eq] using hcap
          split at h
          · rename_i l hh m eb
            obtain ⟨rfl, rfl, rfl⟩ := boundsA_same h1 h2 h3 eb
            obtain ⟨a1, a2, a3, a4⟩ := boundsA_le eb
            have rb := run_bounds (P := P) w true eb (cap' := cap) (fun _ => by omega) (.inl (by omega))
            have hm2 : (if mx' = none then cap else m) = m := by
              split
              · rename_i hn; exact (a4 hn).symm
              · rfl
            rw [hm2] at rb
            cases hml : Nat.beq m l with
            | true =>
              have hml' : m = l := by simpa using hml
              simp only [hml, cond_true, Option.some.injEq] at h
              subst h
              subst hml'
              have hh0 : hh - m = 0 := by omega
              cases hx with
              | slice hl hc => exact ⟨_, runs _ _ _ _ _ _ rb, by rw [if_pos rfl, hh0, Nat.sub_self]; exact .szero _ _⟩
              | sopen hl => omega
              | szero => exact ⟨_, runs _ _ _ _ _ _ rb, by rw [if_pos rfl, hh0, Nat.sub_self]; exact .szero _ _⟩
            | false =>
              have hml' : ¬ m = l := Nat.ne_of_beq_eq_false hml
              simp only [hml, cond_false, Option.some.injEq] at h
              subst h
              cases hx with
              | @slice _ _ _ _ lc hl hc =>
                refine ⟨_, runs _ _ _ _ _ _ rb, ?_⟩
                rw [if_neg hml']
                simp only [Option.map_some, addr_add, Nat.add_assoc]
                exact .slice hl (by omega)
              | sopen hl => omega
              | szero => omega
          · cases h
        | false =>
          simp only [hcap, cond_false] at h
          have hcap' : ¬ cap < OPEN := fun hlt => by rw [← Nat.blt_eq, hcap] at hlt; cases hlt
          cases hco : (Nat.beq cap OPEN && rowSz hp b == some size) with
          | false => simp [hco] at h
          | true =>
            simp only [hco, cond_true] at h
            simp at hco
            obtain ⟨hcO, hrow⟩ := hco
            subst hcO
            clear hcap hcap'
            split at h
            · rename_i l hh m eb
              obtain ⟨rfl, rfl, rfl⟩ := boundsA_same h1 h2 h3 eb
              obtain ⟨a1, a2, a3, a4⟩ := boundsA_le eb
              cases hx with
              | slice hl hc => exact absurd rfl hc
              | @sopen _ _ _ x c lc hl hlen hxo hfin hexact =>
                have hsz2 := rowSz_sound hw hrow hl
                have rb := run_bounds (P := P) w true eb (cap' := c) (fun _ => by omega) (.inl (by omega))
                split at h
                · simp only [if_true] at rb
                  cases h
                  refine ⟨_, runs _ _ _ _ _ _ rb, ?_⟩
                  by_cases hcl : c = l
                  · rw [if_pos hcl]
                    have e0 : hh - l = 0 := by omega
                    have e1 : c - l = 0 := by omega
                    rw [e0, e1]
                    exact .sopen hl (Nat.le_refl _) hxo (by omega) (fun h => by omega)
                  · rw [if_neg hcl]
                    simp only [Option.map_some, addr_add]
                    have hmul : (c - l) * lc.sz + l * size = c * lc.sz := by
                      rw [hsz2, ← Nat.add_mul]; congr 1; omega
                    exact .sopen hl (by omega) (by omega) (by omega) (fun hp0 => by have := hexact (by omega); omega)
                · rename_i vm
                  simp only [reduceCtorEq, if_false] at rb
                  cases hml : Nat.beq m l with
                  | true =>
                    have hml' : m = l := by simpa using hml
                    simp only [hml, cond_true, Option.some.injEq] at h
                    subst h
                    subst hml'
                    have hh0 : hh - m = 0 := by omega
                    exact ⟨_, runs _ _ _ _ _ _ rb, by rw [if_pos rfl, hh0, Nat.sub_self]; exact .szero _ _⟩
                  | false =>
                    have hml' : ¬ m = l := Nat.ne_of_beq_eq_false hml
                    simp only [hml, cond_false] at h
                    cases hmo : Nat.blt m OPEN with
                    | false => simp [hmo] at h
                    | true =>
                      have hmo' : m < OPEN := by simpa [Nat.blt_eq] using hmo
                      simp only [hmo, cond_true, Option.some.injEq] at h
                      subst h
                      refine ⟨_, runs _ _ _ _ _ _ rb, ?_⟩
                      rw [if_neg hml']
                      simp only [Option.map_some, addr_add]
                      rw [(hexact (by omega)).1, Nat.add_assoc]
                      exact .slice hl (by omega)
            · cases h
      · cases h
  · rename_i n e hu
    split at h
    · rename_i b o
      split at h
      · cases h
      · rename_i size hsz
        split at h
        · rename_i l hh m eb
          obtain ⟨rfl, rfl, rfl⟩ := boundsA_same h1 h2 h3 eb
          obtain ⟨a1, a2, a3, a4⟩ := boundsA_le eb
          cases hx with
          | @ptr _ _ lc hl =>
            have rb := run_bounds (P := P) w false eb (cap' := n) (fun _ => by omega) (.inl (by omega))
            have hm2 : (if mx' = none then n else m) = m := by
              split
              · rename_i hn; exact (a4 hn).symm
              · rfl
            rw [hm2] at rb
            have run1 : (Instr.sliceAt t (.pointer (some ⟨lc.blk, lc.off + o, none⟩)) lo' hi' mx').run P w = .ok (.slice (some (if m = l then ⟨lc.blk, lc.off + o, none⟩ else Addr.add ⟨lc.blk, lc.off + o, none⟩ (l * size))) (hh - l) (m - l)) w := by
              simp only [Instr.sliceAt, Sem.run_bind, run_underlying hu, Result.andThen_ok, Instr.sureAddr, rb, run_sizeOf hsz, Sem.run_pure]
            cases hml : Nat.beq m l with
            | true =>
              have hml' : m = l := by simpa using hml
              simp only [hml, cond_true, Option.some.injEq] at h
              subst h
              subst hml'
              have hh0 : hh - m = 0 := by omega
              exact ⟨_, run1, by rw [hh0, Nat.sub_self]; exact .szero _ _⟩
            | false =>
              have hml' : ¬ m = l := Nat.ne_of_beq_eq_false hml
              simp only [hml, cond_false] at h
              cases hmo : Nat.blt m OPEN with
              | false => simp [hmo] at h
              | true =>
                have hmo' : m < OPEN := by simpa [Nat.blt_eq] using hmo
                simp only [hmo, cond_true, Option.some.injEq] at h
                subst h
                refine ⟨_, run1, ?_⟩
                rw [if_neg hml', addr_add, Nat.add_assoc]
                exact .slice hl (by omega)
        · cases h
    · cases h
  · cases h

/-! ### Addresses -/
def fieldAddrA (P : Program) (s : TypeId) (x : Value) (field : Nat) : Option Value :=
  match P.underlying s with
  | some (.struct fields) => match fields[field]? with
    | some f => match szOf P f.type with
      | some (_ + 1) => match x with
        | .pointer (some ⟨b, o, none⟩) => some (.pointer (some ⟨b, o + f.offset, none⟩))
        | _ => none
      | _ => none
    | none => none
  | _ => none

theorem fieldAddrA_sound {P : Program} {φ : Ren} {s : TypeId} {x x' : Value} (hx : VRel φ x x') {field : Nat} {v : Value} (h : fieldAddrA P s x field = some v) (w : World) :
    ∃ v', (Instr.fieldAt s x' field).run P w = .ok v' w ∧ VRel φ v v' := by
  unfold fieldAddrA at h
  split at h
  · rename_i fields hu
    split at h
    · rename_i f hf
      split at h
      · rename_i n hs
        split at h
        · rename_i b o
          cases h
          cases hx with
          | @ptr _ _ lc hl =>
            refine ⟨.pointer (some ⟨lc.blk, lc.off + (o + f.offset), none⟩), ?_, .ptr hl⟩
            simp [Instr.fieldAt, run_underlying hu, hf, Instr.sureAddr, fieldPlace, run_sizeOf hs, addr_add, Nat.add_assoc]
        · cases h
      · cases h
    · cases h
  · cases h

def indexAddrA (P : Program) (t : TypeId) (x ix : Value) : Option Value :=
  match natV ix with
  | none => none
  | some i => match P.underlying t with
    | some (.slice e) => match x with
      | .slice (some ⟨b, o, none⟩) len _ => bif Nat.blt i len then
          match szOf P e with
          | some n => some (.pointer (some ⟨b, o + i * n, none⟩))
          | none => none
        else none
      | _ => none
    | some (.array len e) => match x with
      | .pointer (some ⟨b, o, none⟩) => bif Nat.blt i len then
          match szOf P e with
          | some n => some (.pointer (some ⟨b, o + i * n, none⟩))
          | none => none
        else none
      | _ => none
    | _ => none

theorem indexAddrA_sound {P : Program} {φ : Ren} {t : TypeId} {x x' ix ix' : Value} (hx : VRel φ x x') (hix : VRel φ ix ix') {v : Value} (h : indexAddrA P t x ix = some v) (w : World) :
    ∃ v', (Instr.indexAt t x' ix').run P w = .ok v' w ∧ VRel φ v v' := by
  unfold indexAddrA at h
  split at h
  · cases h
  · rename_i i hi
    obtain rfl := natV_rel hix hi
    obtain ⟨k, rfl⟩ := natV_eq hi
    split at h
    · rename_i e hu
      split at h
      · rename_i b o len cap
        cases hb : Nat.blt i len with
        | false => simp [hb] at h
        | true =>
          simp only [hb, cond_true] at h
          have hlt : i < len := by simpa [Nat.blt_eq] using hb
          split at h
          · rename_i n hs
            cases h
            have run1 : ∀ (a : Addr) (c : Nat), (Instr.indexAt t (.slice (some a) len c) (.int k i)).run P w = .ok (.pointer (some (a.add (i * n)))) w := by
              intro a c
              have hc1 : (0 : Int) ≤ (i : Int) ∧ (i : Int) < (len : Int) := ⟨by omega, by omega⟩
              simp [Instr.indexAt, asIntOf, run_underlying hu, run_sizeOf hs, hlt]
            cases hx with
            | @slice _ _ _ _ lc hl hc => exact ⟨_, run1 _ _, by rw [addr_add, Nat.add_assoc]; exact .ptr hl⟩
            | @sopen _ _ _ x c lc hl hlen hxo hfin hexact => exact ⟨_, run1 _ _, by rw [addr_add, (hexact (by omega)).1, Nat.add_assoc]; exact .ptr hl⟩
            | szero => omega
          · cases h
      · cases h
    · rename_i len e hu
      split at h
      · rename_i b o
        cases hb : Nat.blt i len with
        | false => simp [hb] at h
        | true =>
          simp only [hb, cond_true] at h
          have hlt : i < len := by simpa [Nat.blt_eq] using hb
          split at h
          · rename_i n hs
            cases h
            cases hx with
            | @ptr _ _ lc hl =>
              refine ⟨.pointer (some (Addr.add ⟨lc.blk, lc.off + o, none⟩ (i * n))), ?_, by rw [addr_add, Nat.add_assoc]; exact .ptr hl⟩
              simp [Instr.indexAt, asIntOf, run_underlying hu, run_sizeOf hs, hlt, Instr.sureAddr]
          · cases h
      · cases h
    · cases h

/-! ### Parts of values -/
def fieldA (P : Program) (t : TypeId) (x : Value) (field : Nat) : Option Value :=
  match P.underlying t with
  | some (.struct fields) => match fields[field]? with
    | some f => match x with
      | .agg cs => partA P f.type cs f.offset
      | _ => none
    | none => none
  | _ => none

theorem fieldA_sound {P : Program} {φ : Ren} {t : TypeId} {x x' : Value} (hx : VRel φ x x') {field : Nat} {v : Value} (h : fieldA P t x field = some v) (w : World) :
    ∃ v', (Instr.field t x' field).run P w = .ok v' w ∧ VRel φ v v' := by
  unfold fieldA at h
  split at h
  · rename_i fields hu
    split at h
    · rename_i f hf
      split at h
      · rename_i cs
        cases hx with
        | agg a1 a2 =>
          obtain ⟨v', g1, g2⟩ := partA_sound (P := P) ⟨a1, a2⟩ h w
          exact ⟨v', by simp [Instr.field, run_underlying hu, hf, asAgg, g1], g2⟩
      · cases h
    · cases h
  · cases h

def indexA (P : Program) (t : TypeId) (x ix : Value) : Option Value :=
  match natV ix with
  | none => none
  | some i => match P.underlying t with
    | some .string => match x with
      | .string s => match s.data.toList[i]? with
        | some b => some (.int .u8 b.toNat)
        | none => none
      | _ => none
    | some (.array len e) => match x with
      | .agg cs => bif Nat.blt i len then
          match szOf P e with
          | some n => partA P e cs (i * n)
          | none => none
        else none
      | _ => none
    | _ => none

theorem indexA_sound {P : Program} {φ : Ren} {t : TypeId} {x x' ix ix' : Value} (hx : VRel φ x x') (hix : VRel φ ix ix') {v : Value} (h : indexA P t x ix = some v) (w : World) :
    ∃ v', (Instr.index t x' ix').run P w = .ok v' w ∧ VRel φ v v' := by
  unfold indexA at h
  split at h
  · cases h
  · rename_i i hi
    obtain rfl := natV_rel hix hi
    obtain ⟨k, rfl⟩ := natV_eq hi
    split at h
    · rename_i hu
      split at h
      · rename_i s
        split at h
        · rename_i b hb
          cases h
          cases hx
          have hs : s[i]? = some b := by
            rw [Array.getElem?_toList] at hb
            obtain ⟨hlt, rfl⟩ := Array.getElem?_eq_some_iff.1 hb
            exact getElem?_pos s i hlt
          refine ⟨.int .u8 b.toNat, ?_, .int _ _⟩
          simp [Instr.index, asIntOf, run_underlying hu, hs]
        · cases h
      · cases h
    · rename_i len e hu
      split at h
      · rename_i cs
        cases hb : Nat.blt i len with
        | false => simp [hb] at h
        | true =>
          simp only [hb, cond_true] at h
          have hlt : i < len := by simpa [Nat.blt_eq] using hb
          split at h
          · rename_i n hs
            cases hx with
            | agg a1 a2 =>
              obtain ⟨v', g1, g2⟩ := partA_sound (P := P) ⟨a1, a2⟩ h w
              refine ⟨v', ?_, g2⟩
              simp [Instr.index, asIntOf, run_underlying hu, run_sizeOf hs, hlt, g1]
          · cases h
      · cases h
    · cases h

def extractA (x : Value) (i : Nat) : Option Value :=
  match x with
  | .tuple vs => vs[i]?
  | _ => none

theorem extractA_sound {P : Program} {φ : Ren} {x x' : Value} (hx : VRel φ x x') {i : Nat} {v : Value} (h : extractA x i = some v) (w : World) :
    ∃ v', (Instr.extract x' i).run P w = .ok v' w ∧ VRel φ v v' := by
  unfold extractA at h
  split at h
  · cases hx with
    | tuple a1 a2 =>
      obtain ⟨v', g1, g2⟩ := ARel.get? ⟨a1, a2⟩ h
      exact ⟨v', by simp [Instr.extract, g1], g2⟩
  · cases h

end Go.Proofs.YtkjkoejnicbieaaGreat.AM

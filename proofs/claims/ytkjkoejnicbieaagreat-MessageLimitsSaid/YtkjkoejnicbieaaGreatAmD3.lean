/-
  The message's data: the elements of a segment while they are read.
-/
import Derived.Test.YtkjkoejnicbieaaGreatAmD2
namespace Go.Proofs.YtkjkoejnicbieaaGreat.AM
open Go Go.RowKit

abbrev ELs := List (Option Nat × List ByteArray)
def sv (l : List ByteArray) : List Value := l.map Value.string
theorem sv_len (l : List ByteArray) : (sv l).length = l.length := by simp [sv]
theorem sv_app (l k : List ByteArray) : sv (l ++ k) = sv l ++ sv k := by simp [sv]
def ev (E : ELs) : List Value := E.map fun p => ownV p.1 p.2.length
theorem ev_len (E : ELs) : (ev E).length = E.length := by simp [ev]
theorem ev_app (E F : ELs) : ev (E ++ F) = ev E ++ ev F := by simp [ev]

/-- The elements that were read so far: the row of all, the rows of each; nobody shares a block. -/
structure EInv (hp : Tr AObj) (nx lo : Nat) (ob : Option Nat) (E : ELs) : Prop where
  out : Own hp nx 28 1 ob E.length (ev E)
  ins : ∀ p ∈ E, Own hp nx 9 1 p.1 p.2.length (sv p.2)
  dis : E.Pairwise fun p q => ∀ b, p.1 = some b → q.1 ≠ some b
  far : ∀ p ∈ E, ∀ b, p.1 = some b → ob ≠ some b
  low : ∀ p ∈ E, ∀ b, p.1 = some b → lo ≤ b
  lob : ∀ b, ob = some b → lo ≤ b

theorem EInv.nil (hp : Tr AObj) (nx lo : Nat) : EInv hp nx lo none [] :=
  ⟨Own.nil _ _ _ _, fun p hp => (by cases hp), .nil, fun p hp => (by cases hp), fun p hp => (by cases hp), fun b h => (by cases h)⟩

/-- What lies from 'lo' on stands as it stood. -/
theorem EInv.keep {hp hp' : Tr AObj} {nx nx' lo : Nat} {ob : Option Nat} {E : ELs} (h : EInv hp nx lo ob E) (hk : ∀ i, lo ≤ i → i < nx → hp'.get i = hp.get i) (hn : nx ≤ nx') : EInv hp' nx' lo ob E := by
  refine ⟨h.out.keep (fun b e => hk b (h.lob b e) ?_) hn, fun p hp => (h.ins p hp).keep (fun b e => hk b (h.low p hp b e) ?_) hn, h.dis, h.far, h.low, h.lob⟩
  · have := h.out.2; subst e; exact this.2.1
  · have := (h.ins p hp).2; rw [e] at this; exact this.2.1

theorem EInv.lt {hp : Tr AObj} {nx lo : Nat} {ob : Option Nat} {E : ELs} (h : EInv hp nx lo ob E) {p : Option Nat × List ByteArray} (hp : p ∈ E) {b : Nat} (e : p.1 = some b) : b < nx := by
  have := (h.ins p hp).2; rw [e] at this; exact this.2.1
theorem EInv.lto {hp : Tr AObj} {nx lo : Nat} {ob : Option Nat} {E : ELs} (h : EInv hp nx lo ob E) {b : Nat} (e : ob = some b) : b < nx := by
  have := h.out.2; rw [e] at this; exact this.2.1

theorem bs29 (nx : Nat) : buildSliceA Tryz.prog nx 29 1 [(0, .slice none 0 0)] = some (.slice (some ⟨nx, 0, none⟩) 1 1, .cells [.slice none 0 0] 28 1 0 false true) := by kernel_rfl
theorem bs28 (nx : Nat) (s : ByteArray) : buildSliceA Tryz.prog nx 28 1 [(0, .string s)] = some (.slice (some ⟨nx, 0, none⟩) 1 1, .cells [.string s] 9 1 0 false true) := by kernel_rfl

/-- One element more, with nothing in it. -/
theorem e_app0 {hp : Tr AObj} {nx lo : Nat} {ob : Option Nat} {E : ELs} (h : EInv hp nx lo ob E) (hlo : lo ≤ nx) (hb : E.length < 1000000000) :
    ∃ b hp' nx', appA Tryz.prog (hp.set nx (some (.cells [.slice none 0 0] 28 1 0 false true))) (nx + 1) 29 29 (ownV ob E.length) (.slice (some ⟨nx, 0, none⟩) 1 1) = some ⟨some (ownV (some b) (E.length + 1)), hp', nx'⟩ ∧ EInv hp' nx' lo (some b) (E ++ [(none, [])]) ∧ nx ≤ nx' ∧ (Fr hp nx → Fr hp' nx') ∧ ∀ i, i < lo → hp'.get i = hp.get i := by
  obtain ⟨i, hi, hz, hsz, hbt⟩ := info_of info28
  have hset : ∀ b, b < nx → (hp.set nx (some (.cells [.slice none 0 0] 28 1 0 false true))).get b = hp.get b := fun b hb => Tr.get_set_ne _ _ (by omega)
  have ho1 := h.out.keep (fun b e => hset b (h.lto e)) (Nat.le_succ nx)
  obtain ⟨g1, g2⟩ := own_app (P := Tryz.prog) (t := 29) (u := 29) un29 un29 (fun k h => by cases h) hi hz hsz (by decide) rfl rfl ho1 (x := .slice (some ⟨nx, 0, none⟩) 1 1) (k := 1) (vs := [.slice none 0 0])
      (by unfold srcA ldCells; simp only [Tr.get_set_same]; rfl) (by decide) rfl rfl (by rw [hbt]; omega) (by omega)
  refine ⟨nx + 1, _, nx + 1 + 1, g1, ⟨?_, ?_, ?_, ?_, ?_, ?_⟩, by omega, fun hf => (unO_fr (hf.new _)).new _, fun j hj => ?_⟩
  · rw [List.length_append, ev_app]; exact g2
  · intro p hp2
    rcases List.mem_append.1 hp2 with hp2 | hp2
    · refine (h.ins p hp2).keep (fun b e => ?_) (by omega)
      have := h.lt hp2 e
      rw [Own.get_other (by omega) (h.far p hp2 b e), hset b this]
    · rw [List.mem_singleton.1 hp2]; exact Own.nil _ _ _ _
  · rw [List.pairwise_append]
    refine ⟨h.dis, List.pairwise_singleton _ _, fun p _ q hq b _ => ?_⟩
    rw [List.mem_singleton.1 hq]; intro e; cases e
  · intro p hp2 b e
    rcases List.mem_append.1 hp2 with hp2 | hp2
    · have := h.lt hp2 e
      intro e2; cases e2; omega
    · rw [List.mem_singleton.1 hp2] at e; cases e
  · intro p hp2 b e
    rcases List.mem_append.1 hp2 with hp2 | hp2
    · exact h.low p hp2 b e
    · rw [List.mem_singleton.1 hp2] at e; cases e
  · intro b e; cases e; omega
  · rw [Own.get_other (by omega) (fun e => by have := h.lob j e; omega), hset j (by omega)]

/-- A part more in the last element. -/
theorem e_app1 {hp : Tr AObj} {nx lo bo : Nat} {E : ELs} {oi : Option Nat} {ss : List ByteArray} (h : EInv hp nx lo (some bo) (E ++ [(oi, ss)])) (hlo : lo ≤ nx) (hb : ss.length < 1000000000) (p : ByteArray) :
    ∃ bi hp' nx', appA Tryz.prog (hp.set nx (some (.cells [.string p] 9 1 0 false true))) (nx + 1) 28 28 (ownV oi ss.length) (.slice (some ⟨nx, 0, none⟩) 1 1) = some ⟨some (ownV (some bi) (ss.length + 1)), hp', nx'⟩ ∧
      hp'.get bo = some (.cells (ev E ++ [ownV oi ss.length]) 28 1 0 false true) ∧
      EInv (hp'.set bo (some (.cells ((ev E ++ [ownV oi ss.length]).set E.length (ownV (some bi) (ss.length + 1))) 28 1 0 false true))) nx' lo (some bo) (E ++ [(some bi, ss ++ [p])]) ∧ nx ≤ nx' ∧ (Fr hp nx → Fr hp' nx') ∧ ∀ i, i < lo → hp'.get i = hp.get i := by
  obtain ⟨i, hi, hz, hsz, hbt⟩ := info_of info9
  have hset : ∀ b, b < nx → (hp.set nx (some (.cells [.string p] 9 1 0 false true))).get b = hp.get b := fun b hb => Tr.get_set_ne _ _ (by omega)
  have hmem : (oi, ss) ∈ E ++ [(oi, ss)] := List.mem_append_right _ (List.mem_singleton.2 rfl)
  have ho1 : Own (hp.set nx (some (.cells [.string p] 9 1 0 false true))) (nx + 1) 9 1 oi ss.length (sv ss) := (h.ins _ hmem).keep (fun b e => hset b (h.lt hmem e)) (Nat.le_succ nx)
  obtain ⟨g1, g2⟩ := own_app (P := Tryz.prog) (t := 28) (u := 28) un28 un28 (fun k h => by cases h) hi hz hsz (by decide) rfl rfl ho1 (x := .slice (some ⟨nx, 0, none⟩) 1 1) (k := 1) (vs := [.string p])
      (by unfold srcA ldCells; simp only [Tr.get_set_same]; rfl) (by decide) rfl rfl (by rw [hbt]; omega) (by omega)
  have hbo : bo < nx := h.lto rfl
  have hob : oi ≠ some bo := fun e => h.far _ hmem bo e rfl
  have hout := h.out.2.2.2
  rw [ev_app] at hout
  have hev : ev [(oi, ss)] = [ownV oi ss.length] := rfl
  rw [hev] at hout
  have hsetl : (ev E ++ [ownV oi ss.length]).set E.length (ownV (some (nx + 1)) (ss.length + 1)) = ev E ++ [ownV (some (nx + 1)) (ss.length + 1)] := by
    rw [List.set_append_right _ _ (by rw [ev_len]; exact Nat.le_refl _), ev_len, Nat.sub_self]; rfl
  have hdis := List.pairwise_append.1 h.dis
  refine ⟨nx + 1, _, nx + 1 + 1, g1, ?_, ⟨?_, ?_, ?_, ?_, ?_, ?_⟩, by omega, fun hf => (unO_fr (hf.new _)).new _, fun j hj => ?_⟩
  · rw [Own.get_other (by omega) hob, hset bo hbo]; exact hout
  · rw [hsetl]
    refine ⟨by simp [ev_len], by simp, by omega, ?_⟩
    rw [Tr.get_set_same, ev_app]
    simp [ev]
  · intro q hq
    rcases List.mem_append.1 hq with hq | hq
    · refine (h.ins q (List.mem_append_left _ hq)).keep (fun b e => ?_) (by omega)
      have h1 := h.lt (List.mem_append_left _ hq) e
      have h2 := h.far q (List.mem_append_left _ hq) b e
      have h3 := hdis.2.2 q hq _ (List.mem_singleton.2 rfl) b e
      rw [Tr.get_set_ne _ _ (fun e2 => h2 (by rw [e2])), Own.get_other (by omega) h3, hset b h1]
    · rw [List.mem_singleton.1 hq]
      simp only
      have := g2.keep (hp' := ((unO (hp.set nx (some (.cells [.string p] 9 1 0 false true))) oi).set (nx + 1) (some (.cells (sv ss ++ [.string p]) 9 1 0 false true))).set bo (some (.cells ((ev E ++ [ownV oi ss.length]).set E.length (ownV (some (nx + 1)) (ss.length + 1))) 28 1 0 false true))) (nx' := nx + 1 + 1) (fun b e => by cases e; exact Tr.get_set_ne _ _ (by omega)) (Nat.le_refl _)
      rw [List.length_append, sv_app]
      exact this
  · rw [List.pairwise_append]
    refine ⟨hdis.1, List.pairwise_singleton _ _, fun q hq q2 hq2 b e => ?_⟩
    rw [List.mem_singleton.1 hq2]
    have := h.lt (List.mem_append_left _ hq) e
    intro e2; cases e2; omega
  · intro q hq b e
    rcases List.mem_append.1 hq with hq | hq
    · exact h.far q (List.mem_append_left _ hq) b e
    · rw [List.mem_singleton.1 hq] at e; cases e; intro e2; cases e2; omega
  · intro q hq b e
    rcases List.mem_append.1 hq with hq | hq
    · exact h.low q (List.mem_append_left _ hq) b e
    · rw [List.mem_singleton.1 hq] at e; cases e; omega
  · exact h.lob
  · rw [Own.get_other (by omega) (fun e => by have := h.low _ hmem j e; omega), hset j (by omega)]

theorem Own.rdStrs {hp : Tr AObj} {nx : Nat} {ob : Option Nat} {ss : List ByteArray} (h : Own hp nx 9 1 ob ss.length (sv ss)) : RdStrs hp (ownV ob ss.length) ss := by
  obtain ⟨_, h2⟩ := h
  cases ob with
  | none => exact ⟨none, 0, by rw [h2]; rfl, fun hn => by simp only at h2; omega⟩
  | some b =>
    refine ⟨some ⟨b, 0, none⟩, OPEN, rfl, fun hn => ⟨b, 0, sv ss, 9, 0, false, true, rfl, h2.2.2, fun i hi => ⟨_, ?_, rfl⟩⟩⟩
    rw [show 0 + i * 1 = i from by omega, sv, List.getElem?_map, getD_some (d := (⟨#[]⟩ : ByteArray)) hi]; rfl

theorem EInv.rd {hp : Tr AObj} {nx lo : Nat} {ob : Option Nat} {E : ELs} (h : EInv hp nx lo ob E) : RdEls hp (ownV ob E.length) (E.map (·.2)) := by
  have hl : (E.map (·.2)).length = E.length := by simp
  obtain ⟨_, h2⟩ := h.out
  cases ob with
  | none => exact ⟨none, 0, by rw [hl, h2]; rfl, fun hn => by rw [hl] at hn; simp only at h2; omega⟩
  | some b =>
    refine ⟨some ⟨b, 0, none⟩, OPEN, by rw [hl]; rfl, fun hn => ⟨b, 0, ev E, 28, 0, false, true, rfl, h2.2.2, fun i hi => ?_⟩⟩
    rw [hl] at hi
    have hg := getD_some (d := ((none, []) : Option Nat × List ByteArray)) hi
    have hm := getD_mem (d := ((none, []) : Option Nat × List ByteArray)) hi
    refine ⟨ownV (E.getD i (none, [])).1 (E.getD i (none, [])).2.length, ?_, ?_⟩
    · rw [show 0 + i * 1 = i from by omega, ev, List.getElem?_map, hg]; rfl
    · have e : (E.map (·.2)).getD i [] = (E.getD i (none, [])).2 := by
        rw [List.getD_eq_getElem?_getD, List.getElem?_map, hg]; rfl
      show RdStrs hp _ ((E.map (·.2)).getD i [])
      rw [e]
      exact (h.ins _ hm).rdStrs
end Go.Proofs.YtkjkoejnicbieaaGreat.AM

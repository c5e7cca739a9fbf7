/-
  The message's laws: what is read is printed, what is printed is read; and 'MessageLimits', walked.
-/
import Derived.Test.YtkjkoejnicbieaaGreatAmP14
namespace Go.Proofs.YtkjkoejnicbieaaGreat.AM
open Go Go.RowKit

/-! ### Texts as sums -/
theorem take_len {α : Type} (l : List α) : l.take l.length = l := List.take_of_length_le (Nat.le_refl _)
theorem prElsN_flat (es : List (List ByteArray)) : ∀ n, n ≤ es.length → prElsN es n = (es.take n).flatMap prEl := by
  intro n
  induction n with
  | zero => intro _; rfl
  | succ n ih =>
    intro h
    rw [prElsN, ih (by omega), take_snoc (d := []) (by omega), List.flatMap_append]
    simp
theorem prMsgN_flat (m : List Seg) : ∀ n, n ≤ m.length → prMsgN m n = (m.take n).flatMap prSeg := by
  intro n
  induction n with
  | zero => intro _; rfl
  | succ n ih =>
    intro h
    rw [prMsgN, ih (by omega), take_snoc (d := default) (by omega), List.flatMap_append]
    simp
theorem prMsg_flat (m : List Seg) : prMsg m = m.flatMap prSeg := by
  rw [prMsg, prMsgN_flat m _ (Nat.le_refl _), take_len]
theorem prSeg_flat (x : Seg) : prSeg x = x.tag.data.toList ++ x.els.flatMap prEl ++ [39] := by
  rw [prSeg, prElsN_flat _ _ (Nat.le_refl _), take_len]
def colons (ps : List ByteArray) : List UInt8 := ps.flatMap fun p => 58 :: esc p.data.toList
theorem prElN_flat (p0 : ByteArray) (ps : List ByteArray) : ∀ n, n ≤ ps.length → prElN (p0 :: ps) (n + 1) = 43 :: esc p0.data.toList ++ colons (ps.take n) := by
  intro n
  induction n with
  | zero => intro _; simp [prElN, prPart, colons]
  | succ n ih =>
    intro h
    rw [prElN, ih (by omega), take_snoc (d := ⟨#[]⟩) (by omega)]
    have : (p0 :: ps).getD (n + 1) ⟨#[]⟩ = ps.getD n ⟨#[]⟩ := by simp
    rw [this]
    simp [colons, prPart]
theorem prEl_flat (p0 : ByteArray) (ps : List ByteArray) : prEl (p0 :: ps) = 43 :: esc p0.data.toList ++ colons ps := by
  rw [prEl, List.length_cons, prElN_flat p0 ps _ (Nat.le_refl _), take_len]
theorem prEl_nil : prEl [] = [] := rfl
/-- A part more in an element that has one. -/
theorem prEl_snoc {e : List ByteArray} (he : e ≠ []) (p : ByteArray) : prEl (e ++ [p]) = prEl e ++ 58 :: esc p.data.toList := by
  cases e with
  | nil => exact absurd rfl he
  | cons p0 ps => rw [List.cons_append, prEl_flat, prEl_flat]; simp [colons]

theorem esc_cons (c : UInt8) (l : List UInt8) : esc (c :: l) = (if isSign c then [63, c] else [c]) ++ esc l := by simp [esc]
theorem sign_of3 {c : UInt8} (h : isSign3 c = true) : isSign c = true := by
  unfold isSign3 at h; unfold isSign
  simp only [Bool.or_eq_true] at h ⊢
  exact .inl h
theorem sign3_of {c : UInt8} (h : isSign c = false) : isSign3 c = false ∧ c ≠ 63 := by
  unfold isSign at h; unfold isSign3
  simp only [Bool.or_eq_false_iff, beq_eq_false_iff_ne] at h ⊢
  exact ⟨h.1, h.2⟩

/-! ### What is printed is read back -/
theorem pPart_esc {stop : UInt8} (hs : isSign3 stop = true) (r : List UInt8) : ∀ l : List UInt8, l.all okCh = true → pPart (esc l ++ stop :: r) = some (l, stop :: r) := by
  intro l
  induction l with
  | nil => intro _; show pPart (stop :: r) = _; rw [pPart_cons, if_pos hs]
  | cons c l ih =>
    intro h
    simp only [List.all_cons, Bool.and_eq_true] at h
    rw [esc_cons]
    cases hc : isSign c with
    | true =>
      rw [if_pos rfl]
      show pPart (63 :: c :: (esc l ++ stop :: r)) = _
      rw [pPart_cons, if_neg (by decide), if_pos rfl]
      simp only [hc, if_true, ih h.2, Option.map_some]
    | false =>
      rw [if_neg Bool.false_ne_true]
      show pPart (c :: (esc l ++ stop :: r)) = _
      obtain ⟨h1, h2⟩ := sign3_of hc
      rw [pPart_cons, h1, if_neg Bool.false_ne_true, if_neg h2, if_pos h.1, ih h.2]; rfl

def okPartB (p : ByteArray) : Bool := p.data.toList.all okCh
theorem okPart_B {p : ByteArray} (h : okPart p = true) : okPartB p = true := by
  unfold okPart at h; simp only [Bool.and_eq_true] at h; exact h.2

theorem pEls_colons {stop : UInt8} (hs : isSign3 stop = true) (r : List UInt8) (acc : List (List ByteArray)) : ∀ (ps e : List ByteArray), ps.all okPartB = true → pEls (acc ++ [e]) (colons ps ++ stop :: r) = pEls (acc ++ [e ++ ps]) (stop :: r) := by
  intro ps
  induction ps with
  | nil => intro e _; rw [List.append_nil]; rfl
  | cons p ps ih =>
    intro e h
    simp only [List.all_cons, Bool.and_eq_true] at h
    have hc : colons (p :: ps) ++ stop :: r = 58 :: (esc p.data.toList ++ (colons ps ++ stop :: r)) := by simp [colons]
    have hnext : ∃ c t, colons ps ++ stop :: r = c :: t ∧ isSign3 c = true := by
      cases ps with
      | nil => exact ⟨stop, r, rfl, hs⟩
      | cons q qs => exact ⟨58, esc q.data.toList ++ (colons qs ++ stop :: r), by simp [colons], rfl⟩
    obtain ⟨c, t, hct, hcs⟩ := hnext
    have hp := pPart_esc hcs t p.data.toList h.1
    rw [hc, pEls_colon, if_neg (by simp), pNext, hct, hp]
    simp only
    rw [addPart_snoc, ← hct, ih _ h.2]
    simp

theorem pEls_print (r : List UInt8) : ∀ (es : List (List ByteArray)) (acc : List (List ByteArray)), (∀ e ∈ es, e ≠ [] ∧ e.all okPartB = true) → pEls acc (es.flatMap prEl ++ 39 :: r) = some (acc ++ es, r) := by
  intro es
  induction es with
  | nil => intro acc _; rw [List.append_nil]; exact pEls_end acc r
  | cons e es ih =>
    intro acc h
    obtain ⟨h1, h2⟩ := h e (List.mem_cons_self ..)
    cases e with
    | nil => exact absurd rfl h1
    | cons p0 ps =>
      simp only [List.all_cons, Bool.and_eq_true] at h2
      have hnext : ∃ c t, es.flatMap prEl ++ 39 :: r = c :: t ∧ isSign3 c = true := by
        cases es with
        | nil => exact ⟨39, r, rfl, rfl⟩
        | cons q qs =>
          obtain ⟨g1, _⟩ := h q (List.mem_cons_of_mem _ (List.mem_cons_self ..))
          cases q with
          | nil => exact absurd rfl g1
          | cons q0 qt => exact ⟨43, esc q0.data.toList ++ (colons qt ++ (qs.flatMap prEl ++ 39 :: r)), by simp [prEl_flat], rfl⟩
      obtain ⟨c, t, hct, hcs⟩ := hnext
      have e1 : ((p0 :: ps) :: es).flatMap prEl ++ 39 :: r = 43 :: (esc p0.data.toList ++ (colons ps ++ c :: t)) := by
        rw [← hct]; simp [prEl_flat]
      have hn2 : ∃ c' t', colons ps ++ c :: t = c' :: t' ∧ isSign3 c' = true := by
        cases ps with
        | nil => exact ⟨c, t, rfl, hcs⟩
        | cons q qs => exact ⟨58, esc q.data.toList ++ (colons qs ++ c :: t), by simp [colons], rfl⟩
      obtain ⟨c', t', hct', hcs'⟩ := hn2
      rw [e1, pEls_plus, pNext, hct', pPart_esc hcs' t' _ h2.1]
      simp only
      rw [addPart_snoc, ← hct', pEls_colons hcs t acc ps _ h2.2, ← hct]
      have := ih (acc ++ [[⟨p0.data.toList.toArray⟩] ++ ps]) fun e he => h e (List.mem_cons_of_mem _ he)
      simp only [List.nil_append] at this ⊢
      rw [this]
      simp

theorem okEl_B {e : List ByteArray} (h : okEl e = true) : e ≠ [] ∧ e.all okPartB = true := by
  unfold okEl at h
  simp only [Bool.and_eq_true, decide_eq_true_eq, List.all_eq_true] at h
  refine ⟨fun q => by rw [q] at h; simp at h, List.all_eq_true.2 fun p hp => okPart_B (h.2 p hp)⟩

theorem span_stop {f : UInt8 → Bool} {c : UInt8} (hc : f c = false) (r : List UInt8) : ∀ t : List UInt8, t.all f = true → (t ++ c :: r).takeWhile f = t ∧ (t ++ c :: r).dropWhile f = c :: r := by
  intro t
  induction t with
  | nil => intro _; simp [hc]
  | cons d t ih =>
    intro h
    simp only [List.all_cons, Bool.and_eq_true] at h
    obtain ⟨h1, h2⟩ := ih h.2
    simp [h.1, h1, h2]

theorem els_head (es : List (List ByteArray)) (h : ∀ e ∈ es, e ≠ []) (r : List UInt8) : ∃ c t, es.flatMap prEl ++ 39 :: r = c :: t ∧ isSign3 c = true ∧ isUp c = false := by
  cases es with
  | nil => exact ⟨39, r, rfl, rfl, rfl⟩
  | cons e es =>
    cases e with
    | nil => exact absurd rfl (h [] (List.mem_cons_self ..))
    | cons q0 qt => exact ⟨43, esc q0.data.toList ++ (colons qt ++ (es.flatMap prEl ++ 39 :: r)), by simp [prEl_flat], rfl, rfl⟩

theorem pSeg_print {x : Seg} (h : okSeg x = true) (r : List UInt8) : pSeg (prSeg x ++ r) = some (x, r) := by
  obtain ⟨tag, els⟩ := x
  unfold okSeg at h
  simp only [Bool.and_eq_true, decide_eq_true_eq, List.all_eq_true] at h
  obtain ⟨⟨htag, _⟩, hels⟩ := h
  have hall : tag.data.toList.all isUp = true := by
    unfold isTag at htag; simp only [Bool.and_eq_true] at htag; exact htag.2
  obtain ⟨c, t, hct, _, hcu⟩ := els_head els (fun e he => (okEl_B (hels e he)).1) r
  have e1 : prSeg ⟨tag, els⟩ ++ r = tag.data.toList ++ c :: t := by rw [prSeg_flat, ← hct]; simp
  obtain ⟨s1, s2⟩ := span_stop hcu t tag.data.toList hall
  unfold pSeg
  rw [e1, s1, s2, if_pos htag, ← hct, pEls_print r els [] fun e he => okEl_B (hels e he)]
  rfl

theorem okSeg_fit {x : Seg} (hq : okSeg x = true) : fitEls x.els = true := by
  unfold okSeg at hq
  simp only [Bool.and_eq_true, decide_eq_true_eq, List.all_eq_true] at hq
  unfold fitEls
  simp only [Bool.and_eq_true, decide_eq_true_eq, List.all_eq_true]
  refine ⟨hq.1.2, fun y hy => ?_⟩
  have hy' := hq.2 y hy
  unfold okEl at hy'
  unfold fitEl
  simp only [Bool.and_eq_true, decide_eq_true_eq, List.all_eq_true] at hy' ⊢
  refine ⟨hy'.1, fun p hp => ?_⟩
  have hp' := hy'.2 p hp
  unfold okPart at hp'
  simp only [Bool.and_eq_true, decide_eq_true_eq] at hp'
  exact hp'.1

theorem seg_head {x : Seg} (h : okSeg x = true) (r : List UInt8) : ∃ c t, prSeg x ++ r = c :: t ∧ isLF c = false := by
  obtain ⟨tag, els⟩ := x
  unfold okSeg at h
  simp only [Bool.and_eq_true] at h
  have htag := h.1.1
  rw [prSeg_flat]
  unfold isTag at htag
  simp only [Bool.and_eq_true] at htag
  cases htl : tag.data.toList with
  | nil => rw [htl] at htag; simp at htag
  | cons c t =>
    rw [htl] at htag
    simp only [List.all_cons, Bool.and_eq_true] at htag
    refine ⟨c, t ++ els.flatMap prEl ++ [39] ++ r, by simp, ?_⟩
    have := htag.2.1
    unfold isUp at this
    unfold isLF
    simp only [Bool.and_eq_true, decide_eq_true_eq] at this
    rw [beq_eq_false_iff_ne]
    intro e; subst e
    exact absurd this.1 (by decide)

/-- One segment, behind line feeds. -/
theorem pMsg_seg {x : Seg} (h : okSeg x = true) {lf : List UInt8} (hlf : lf.all isLF = true) (r : List UInt8) (acc : List Seg) :
    pMsg acc (lf ++ prSeg x ++ r) = if acc.length = 60 then ([], acc.length, 3) else pMsg (acc ++ [x]) r := by
  obtain ⟨c, t, hct, hc⟩ := seg_head h r
  rw [pMsg_eq, List.append_assoc, hct, (span_stop hc t lf hlf).2]
  unfold pMsg2
  simp only
  rw [← hct, pSeg_print h r]
  simp only [okSeg_fit h, Bool.true_eq_false, false_or]

theorem dropWhile_all {f : UInt8 → Bool} : ∀ {l : List UInt8}, l.all f = true → l.dropWhile f = [] := by
  intro l
  induction l with
  | nil => intro _; rfl
  | cons c l ih => intro h; simp only [List.all_cons, Bool.and_eq_true] at h; simp [h.1, ih h.2]

theorem pMsg_end {lf : List UInt8} (hlf : lf.all isLF = true) (acc : List Seg) : pMsg acc lf = (acc, 0, 0) := by
  rw [pMsg_eq, dropWhile_all hlf]; rfl

theorem pMsg_print : ∀ (m : List Seg) (acc : List Seg), m.all okSeg = true → acc.length + m.length ≤ 60 → pMsg acc (m.flatMap prSeg) = (acc ++ m, 0, 0) := by
  intro m
  induction m with
  | nil => intro acc _ _; rw [List.append_nil]; exact pMsg_end rfl acc
  | cons x m ih =>
    intro acc h hl
    simp only [List.all_cons, Bool.and_eq_true] at h
    rw [List.length_cons] at hl
    have := pMsg_seg h.1 (lf := []) rfl (m.flatMap prSeg) acc
    rw [List.nil_append] at this
    rw [List.flatMap_cons, this, if_neg (by omega), ih _ h.2 (by rw [List.length_append, List.length_singleton]; omega)]
    simp

/-- What 'Print' hands back is read as it was. -/
theorem pParse_print {m : List Seg} (h : okMsg m = true) (hl : (prMsg m).length ≤ 20000) : pParse ⟨(prMsg m).toArray⟩ = (m, 0, 0) := by
  unfold okMsg at h
  simp only [Bool.and_eq_true, decide_eq_true_eq] at h
  unfold pParse
  have hs : ¬ 20000 < (⟨(prMsg m).toArray⟩ : ByteArray).size := by
    show ¬ 20000 < (prMsg m).toArray.size
    rw [List.size_toArray]; omega
  rw [if_neg hs]
  show pMsg [] (prMsg m) = _
  rw [prMsg_flat, pMsg_print m [] h.2 (by simpa using h.1), List.nil_append]
end Go.Proofs.YtkjkoejnicbieaaGreat.AM
namespace Go.Proofs.YtkjkoejnicbieaaGreat.AM
open Go Go.RowKit

theorem pPart_inv : ∀ (n : Nat) (l p r : List UInt8), l.length ≤ n → pPart l = some (p, r) → l = esc p ++ r ∧ p.all okCh = true := by
  intro n
  induction n with
  | zero =>
    intro l p r hl h
    have : l = [] := List.eq_nil_of_length_eq_zero (by omega)
    subst this
    rw [pPart_nil] at h
    cases h; exact ⟨rfl, rfl⟩
  | succ n ih =>
    intro l p r hl h
    cases l with
    | nil => rw [pPart_nil] at h; cases h; exact ⟨rfl, rfl⟩
    | cons c t =>
      rw [List.length_cons] at hl
      rw [pPart_cons] at h
      cases h3 : isSign3 c with
      | true => rw [h3, if_pos rfl] at h; cases h; exact ⟨rfl, rfl⟩
      | false =>
        rw [h3, if_neg Bool.false_ne_true] at h
        by_cases h63 : c = 63
        · rw [if_pos h63] at h
          cases t with
          | nil => cases h
          | cons d t' =>
            rw [List.length_cons] at hl
            simp only at h
            cases hd : isSign d with
            | false => rw [hd, if_neg Bool.false_ne_true] at h; cases h
            | true =>
              rw [hd, if_pos rfl] at h
              cases hp : pPart t' with
              | none => rw [hp] at h; cases h
              | some x =>
                rw [hp] at h
                cases h
                obtain ⟨k1, k2⟩ := ih t' x.1 x.2 (by omega) hp
                refine ⟨?_, ?_⟩
                · rw [esc_cons, hd, if_pos rfl, h63]
                  show 63 :: d :: t' = 63 :: d :: (esc x.1 ++ x.2)
                  rw [← k1]
                · have := isSign_ok hd
                  simp only [List.all_cons, k2, Bool.and_true]
                  unfold okCh
                  simp [this]
        · rw [if_neg h63] at h
          cases hc : okCh c with
          | false => rw [hc, if_neg Bool.false_ne_true] at h; cases h
          | true =>
            rw [hc, if_pos rfl] at h
            cases hp : pPart t with
            | none => rw [hp] at h; cases h
            | some x =>
              rw [hp] at h
              cases h
              obtain ⟨k1, k2⟩ := ih t x.1 x.2 (by omega) hp
              have hs : isSign c = false := by
                unfold isSign3 at h3; unfold isSign
                simp only [Bool.or_eq_false_iff, beq_eq_false_iff_ne] at h3 ⊢
                exact ⟨h3, h63⟩
              refine ⟨?_, by simp [hc, k2]⟩
              rw [esc_cons, hs, if_neg Bool.false_ne_true]
              show c :: t = c :: (esc x.1 ++ x.2)
              rw [← k1]

def Good (acc : List (List ByteArray)) : Prop := ∀ e ∈ acc, e ≠ [] ∧ e.all okPartB = true

theorem pEls_inv : ∀ (n : Nat) (l : List UInt8) (acc es : List (List ByteArray)) (r : List UInt8), l.length ≤ n → pEls acc l = some (es, r) → Good acc → Good es ∧ ∃ mid, l = mid ++ 39 :: r ∧ es.flatMap prEl = acc.flatMap prEl ++ mid := by
  intro n
  induction n with
  | zero =>
    intro l acc es r hl h _
    have : l = [] := List.eq_nil_of_length_eq_zero (by omega)
    subst this
    rw [pEls_nil] at h; cases h
  | succ n ih =>
    intro l acc es r hl h hg
    cases l with
    | nil => rw [pEls_nil] at h; cases h
    | cons c t =>
      rw [List.length_cons] at hl
      by_cases h39 : c = 39
      · subst h39
        rw [pEls_end] at h
        cases h
        exact ⟨hg, [], rfl, by rw [List.append_nil]⟩
      by_cases h43 : c = 43
      · subst h43
        rw [pEls_plus, pNext] at h
        cases hp : pPart t with
        | none => rw [hp] at h; cases h
        | some x =>
          obtain ⟨p, t'⟩ := x
          rw [hp] at h
          simp only at h
          obtain ⟨k1, k2⟩ := pPart_inv _ t p t' (Nat.le_refl _) hp
          have hlen : t'.length ≤ t.length := by rw [k1, List.length_append]; omega
          rw [addPart_snoc] at h
          obtain ⟨g1, mid, g2, g3⟩ := ih t' _ es r (by omega) h (by
            intro e he
            rcases List.mem_append.1 he with he | he
            · exact hg e he
            · rw [List.mem_singleton.1 he]
              exact ⟨by simp, by simp [okPartB, k2]⟩)
          refine ⟨g1, 43 :: esc p ++ mid, ?_, ?_⟩
          · rw [k1, g2]; simp
          · rw [g3]; simp [prEl_flat, colons]
      by_cases h58 : c = 58
      · subst h58
        rw [pEls_colon] at h
        by_cases hne : acc = []
        · rw [if_pos hne] at h; cases h
        · rw [if_neg hne, pNext] at h
          cases hp : pPart t with
          | none => rw [hp] at h; cases h
          | some x =>
            obtain ⟨p, t'⟩ := x
            rw [hp] at h
            simp only at h
            obtain ⟨k1, k2⟩ := pPart_inv _ t p t' (Nat.le_refl _) hp
            have hlen : t'.length ≤ t.length := by rw [k1, List.length_append]; omega
            rcases List.eq_nil_or_concat acc with e | ⟨a0, ss, e⟩
            · exact absurd e hne
            · rw [List.concat_eq_append] at e
              subst e
              have hss := hg ss (List.mem_append_right _ (List.mem_singleton.2 rfl))
              rw [addPart_snoc] at h
              obtain ⟨g1, mid, g2, g3⟩ := ih t' _ es r (by omega) h (by
                intro e he
                rcases List.mem_append.1 he with he | he
                · exact hg e (List.mem_append_left _ he)
                · rw [List.mem_singleton.1 he]
                  exact ⟨by simp, by rw [List.all_append, hss.2]; simp [okPartB, k2]⟩)
              refine ⟨g1, 58 :: esc p ++ mid, ?_, ?_⟩
              · rw [k1, g2]; simp
              · rw [g3]
                simp [prEl_snoc hss.1]
      · rw [pEls_other _ _ h39 h43 h58] at h; cases h

theorem pSeg_inv {l r : List UInt8} {x : Seg} (h : pSeg l = some (x, r)) (hf : fitEls x.els = true) : okSeg x = true ∧ l = prSeg x ++ r := by
  unfold pSeg at h
  cases ht : isTag (l.takeWhile isUp) with
  | false => rw [ht, if_neg Bool.false_ne_true] at h; cases h
  | true =>
    rw [ht, if_pos rfl] at h
    cases hp : pEls [] (l.dropWhile isUp) with
    | none => rw [hp] at h; cases h
    | some y =>
      obtain ⟨es, r'⟩ := y
      rw [hp] at h
      cases h
      obtain ⟨g1, mid, g2, g3⟩ := pEls_inv _ _ _ _ _ (Nat.le_refl _) hp (fun e he => by cases he)
      unfold fitEls at hf
      simp only [Bool.and_eq_true, decide_eq_true_eq, List.all_eq_true] at hf
      refine ⟨?_, ?_⟩
      · unfold okSeg
        simp only [Bool.and_eq_true, decide_eq_true_eq, List.all_eq_true]
        refine ⟨⟨ht, hf.1⟩, fun e he => ?_⟩
        have k1 := hf.2 e he
        have k2 := (g1 e he).2
        unfold fitEl at k1
        unfold okEl
        simp only [Bool.and_eq_true, decide_eq_true_eq, List.all_eq_true] at k1 k2 ⊢
        refine ⟨k1.1, fun p hp => ?_⟩
        have a := k1.2 p hp
        have b := k2 p hp
        unfold okPartB at b
        unfold okPart
        simp only [Bool.and_eq_true, decide_eq_true_eq]
        exact ⟨a, b⟩
      · rw [prSeg_flat]
        show l = l.takeWhile isUp ++ es.flatMap prEl ++ [39] ++ _
        rw [g3, List.flatMap_nil, List.nil_append, List.append_assoc, List.append_assoc]
        refine ((List.takeWhile_append_dropWhile (p := isUp) (l := l)).symm.trans ?_)
        rw [g2]
        rfl

def notLF (c : UInt8) : Bool := !isLF c
theorem esc_noLF : ∀ l : List UInt8, l.all okCh = true → (esc l).all notLF = true := by
  intro l
  induction l with
  | nil => intro _; rfl
  | cons c l ih =>
    intro h
    simp only [List.all_cons, Bool.and_eq_true] at h
    have hc : notLF c = true := by
      unfold notLF isLF
      have := h.1
      unfold okCh at this
      simp only [Bool.and_eq_true, decide_eq_true_eq] at this
      have hne : c ≠ 10 := fun e => by subst e; exact absurd this.1 (by decide)
      simp [hne]
    rw [esc_cons]
    cases isSign c with
    | true => rw [if_pos rfl, List.all_append, ih h.2]; simp [hc]; rfl
    | false => rw [if_neg Bool.false_ne_true, List.all_append, ih h.2]; simp [hc]

theorem seg_noLF {x : Seg} (h : okSeg x = true) : (prSeg x).all notLF = true := by
  obtain ⟨tag, els⟩ := x
  unfold okSeg at h
  simp only [Bool.and_eq_true, decide_eq_true_eq, List.all_eq_true] at h
  obtain ⟨⟨htag, _⟩, hels⟩ := h
  rw [prSeg_flat, List.all_append, List.all_append]
  simp only [Bool.and_eq_true]
  refine ⟨⟨?_, ?_⟩, rfl⟩
  · unfold isTag at htag
    simp only [Bool.and_eq_true, List.all_eq_true] at htag
    refine List.all_eq_true.2 fun c hc => ?_
    have := htag.2 c hc
    unfold isUp at this
    simp only [Bool.and_eq_true, decide_eq_true_eq] at this
    have hne : c ≠ 10 := fun e => by subst e; exact absurd this.1 (by decide)
    simp [notLF, isLF, hne]
  · refine List.all_eq_true.2 fun c hc => ?_
    obtain ⟨e, he, hce⟩ := List.mem_flatMap.1 hc
    obtain ⟨k1, k2⟩ := okEl_B (hels e he)
    cases e with
    | nil => exact absurd rfl k1
    | cons p0 ps =>
      simp only [List.all_cons, Bool.and_eq_true, List.all_eq_true] at k2
      rw [prEl_flat] at hce
      rcases List.mem_append.1 hce with hce | hce
      · rcases List.mem_cons.1 hce with e | hce
        · subst e; rfl
        · exact List.all_eq_true.1 (esc_noLF _ k2.1) c hce
      · obtain ⟨p, hp, hcp⟩ := List.mem_flatMap.1 hce
        rcases List.mem_cons.1 hcp with e | hcp
        · subst e; rfl
        · exact List.all_eq_true.1 (esc_noLF _ (k2.2 p hp)) c hcp

theorem filter_drop : ∀ l : List UInt8, (l.dropWhile isLF).filter notLF = l.filter notLF := by
  intro l
  induction l with
  | nil => rfl
  | cons c l ih =>
    cases hc : isLF c with
    | true => simp [List.dropWhile, hc, ih, notLF]
    | false => simp [List.dropWhile, hc]

theorem pMsg_inv : ∀ (n : Nat) (l : List UInt8) (acc : List Seg), l.length ≤ n → acc.length ≤ 60 →
    ((pMsg acc l).2.2 = 0 → ∃ m, (pMsg acc l).1 = acc ++ m ∧ m.all okSeg = true ∧ (acc ++ m).length ≤ 60 ∧ m.flatMap prSeg = l.filter notLF) ∧ ((pMsg acc l).2.2 ≠ 0 → (pMsg acc l).1 = []) := by
  intro n
  induction n with
  | zero =>
    intro l acc hl ha
    have : l = [] := List.eq_nil_of_length_eq_zero (by omega)
    subst this
    rw [pMsg_end rfl]
    exact ⟨fun _ => ⟨[], by simp, rfl, by simpa using ha, rfl⟩, fun h => absurd rfl h⟩
  | succ n ih =>
    intro l acc hl ha
    have hd := dropWhile_len isLF l
    have hfl := filter_drop l
    rw [pMsg_eq, ← hfl]
    generalize l.dropWhile isLF = l' at hd
    unfold pMsg2
    cases l' with
    | nil => exact ⟨fun _ => ⟨[], by simp, rfl, by simpa using ha, rfl⟩, fun h => absurd rfl h⟩
    | cons c t =>
      simp only
      cases hs : pSeg (c :: t) with
      | none => exact ⟨fun h => (by cases h), fun _ => rfl⟩
      | some y =>
        obtain ⟨x, r⟩ := y
        simp only
        by_cases hq : fitEls x.els = false ∨ acc.length = 60
        · rw [if_pos hq]; exact ⟨fun h => (by cases h), fun _ => rfl⟩
        · rw [if_neg hq]
          have hfit : fitEls x.els = true := by
            cases hf : fitEls x.els with
            | true => rfl
            | false => exact absurd (.inl hf) hq
          have h60 : acc.length ≠ 60 := fun e => hq (.inr e)
          obtain ⟨k1, k2⟩ := pSeg_inv hs hfit
          have hrl := (pSeg_fit hs).1
          obtain ⟨g1, g2⟩ := ih r (acc ++ [x]) (by omega) (by rw [List.length_append, List.length_singleton]; omega)
          refine ⟨fun h => ?_, g2⟩
          obtain ⟨m, m1, m2, m3, m4⟩ := g1 h
          refine ⟨x :: m, by rw [m1]; simp, by simp [k1, m2], by simpa using m3, ?_⟩
          rw [List.flatMap_cons, m4, k2, List.filter_append, List.filter_eq_self.2 (fun c hc => List.all_eq_true.1 (seg_noLF k1) c hc)]

/-- What is read prints as the text without its line feeds. -/
theorem pParse_inv (s : ByteArray) : ((pParse s).2.2 = 0 → okMsg (pParse s).1 = true ∧ prMsg (pParse s).1 = s.data.toList.filter notLF) ∧ ((pParse s).2.2 ≠ 0 → (pParse s).1 = []) := by
  unfold pParse
  by_cases hb : 20000 < s.size
  · rw [if_pos hb]; exact ⟨fun h => (by cases h), fun _ => rfl⟩
  · rw [if_neg hb]
    obtain ⟨g1, g2⟩ := pMsg_inv _ s.data.toList [] (Nat.le_refl _) (Nat.zero_le _)
    refine ⟨fun h => ?_, g2⟩
    obtain ⟨m, m1, m2, m3, m4⟩ := g1 h
    rw [List.nil_append] at m1 m3
    rw [m1]
    exact ⟨by unfold okMsg; rw [m2, decide_eq_true m3]; rfl, by rw [prMsg_flat, m4]⟩
end Go.Proofs.YtkjkoejnicbieaaGreat.AM
namespace Go.Proofs.YtkjkoejnicbieaaGreat.AM
open Go Go.RowKit

theorem prV_ok {m : List Seg} (h : okMsg m = true) : prV m = .tuple #[.string ⟨(prMsg m).toArray⟩, .int .i64 ((0 : Nat) : Int)] := by unfold prV; rw [if_pos h]; rfl
theorem prV_no {m : List Seg} (h : okMsg m = false) : prV m = .tuple #[.string ⟨#[]⟩, .int .i64 ((2 : Nat) : Int)] := by unfold prV; rw [h, if_neg Bool.false_ne_true]; rfl
theorem arr_size (l : List UInt8) : (⟨l.toArray⟩ : ByteArray).size = l.length := by show l.toArray.size = _; rw [List.size_toArray]

theorem seg_len {x : Seg} (h : okSeg x = true) : (prSeg x).length ≤ 1644 := by
  have part : ∀ (e : List ByteArray), (∀ p ∈ e, okPart p = true) → ∀ n, n ≤ e.length → (prElN e n).length ≤ 41 * n := by
    intro e he n
    induction n with
    | zero => intro _; exact Nat.le_refl _
    | succ n ih =>
      intro hn
      have := he _ (getD_mem (d := ⟨#[]⟩) (show n < e.length by omega))
      unfold okPart at this
      simp only [Bool.and_eq_true, decide_eq_true_eq] at this
      have h2 := (esc_le (e.getD n ⟨#[]⟩).data.toList).2
      rw [size_list] at h2
      have := ih (by omega)
      rw [prElN, List.length_append, prPart, List.length_cons]
      omega
  have els : ∀ (es : List (List ByteArray)), (∀ e ∈ es, okEl e = true) → ∀ n, n ≤ es.length → (prElsN es n).length ≤ 205 * n := by
    intro es hes n
    induction n with
    | zero => intro _; exact Nat.le_refl _
    | succ n ih =>
      intro hn
      have := hes _ (getD_mem (d := []) (show n < es.length by omega))
      unfold okEl at this
      simp only [Bool.and_eq_true, decide_eq_true_eq, List.all_eq_true] at this
      have h2 := part _ this.2 _ (Nat.le_refl _)
      have := ih (by omega)
      rw [prElsN, List.length_append, prEl]
      omega
  unfold okSeg at h
  simp only [Bool.and_eq_true, decide_eq_true_eq, List.all_eq_true] at h
  have ht := tag_len h.1.1
  have h2 := els _ h.2 _ (Nat.le_refl _)
  have h3 := size_list x.tag
  rw [prSeg, List.length_append, List.length_append, List.length_singleton]
  omega

theorem cat {t : TypeId} {xc yc : Bool} {T U : List UInt8} (h : T.length + U.length < 9223372036854775808) : binA Tryz.prog .add t xc yc (.string ⟨T.toArray⟩) (.string ⟨U.toArray⟩) = some (.string ⟨(T ++ U).toArray⟩) := by
  have hm : IntKind.i64.max = 9223372036854775807 := by decide
  simp only [binA, binStr, arr_size, hm]
  rw [if_neg (by omega)]

def RdBytes (hp : Tr AObj) (v : Value) (bs : List UInt8) : Prop := Row1 hp v bs.length (fun i u => u = .int .u8 ((bs.getD i 0).toNat : Int))

theorem rem4 {xc yc : Bool} (c : UInt8) : binA Tryz.prog .rem 5 xc yc (.int .u8 (c.toNat : Int)) (.int .u8 4) = some (.int .u8 ((c.toNat % 4 : Nat) : Int)) := by
  have : (c.toNat : Int).tmod 4 = ((c.toNat % 4 : Nat) : Int) := by
    rw [Int.tmod_eq_emod_of_nonneg (by omega)]; omega
  simp only [binA, binInt, ne_eq, not_true_eq_false, if_false, this]
  rfl
theorem cv5_3 (hp : Tr AObj) (n : Nat) (h : n < 256) : convA Tryz.prog hp 5 3 (.int .u8 (n : Int)) = some (.int .i64 (n : Int)) := by
  have : IntKind.i64.wrap (n : Int) = n := wrap_small (by omega)
  simp only [convA, un5, un3, this]

/-- One segment of a message, as a message. -/
theorem slMsg {hp : Tr AObj} {ba : Option Addr} {ca i : Nat} {m : List Seg} (hm : RdMsg hp (.slice ba m.length ca) m) (hca : m.length ≤ ca ∧ ca < OPEN ∨ ca = OPEN) (hi : i < m.length) :
    ∃ w, sliceA Tryz.prog hp 22 (.slice ba m.length ca) (some (.int .i64 (i : Int))) (some (.int .i64 ((i + 1 : Nat) : Int))) none = some w ∧ RdMsg hp w [m.getD i default] := by
  obtain ⟨ba', ca', e, h⟩ := hm
  cases e
  obtain ⟨b, o, c, e, fz, ro, hd, rfl, hg, hc⟩ := h (by omega)
  have read : ∀ cap, RdMsg hp (.slice (some ⟨b, o + i * 2, none⟩) (i + 1 - i) cap) [m.getD i default] := fun cap => by
    rw [show i + 1 - i = 1 by omega]
    refine ⟨_, _, rfl, fun _ => ⟨b, o + i * 2, c, e, fz, ro, hd, rfl, hg, fun j hj => ?_⟩⟩
    have : j = 0 := by simp at hj; omega
    subst this
    have := hc i hi
    simpa using this
  rcases hca with ⟨h1, h2⟩ | h1
  · have a1 : Nat.blt ca OPEN = true := by rw [Nat.blt_eq]; exact h2
    have a2 : (Nat.ble i (i + 1) && Nat.ble (i + 1) ca && Nat.ble ca ca) = true := by simp only [Bool.and_eq_true, Nat.ble_eq]; omega
    have a3 : Nat.beq ca i = false := by
      cases hq : Nat.beq ca i with
      | false => rfl
      | true => have := Nat.eq_of_beq_eq_true hq; omega
    exact ⟨.slice (some ⟨b, o + i * 2, none⟩) (i + 1 - i) (ca - i), by simp only [sliceA, un22, sz31, a1, cond_true, boundsA, natV_cast, a2, a3, cond_false], read _⟩
  · subst h1
    have a1 : Nat.blt OPEN OPEN = false := by
      cases hq : Nat.blt OPEN OPEN with
      | false => rfl
      | true => rw [Nat.blt_eq] at hq; omega
    have a2 : (Nat.ble i (i + 1) && Nat.ble (i + 1) m.length && Nat.ble m.length m.length) = true := by simp only [Bool.and_eq_true, Nat.ble_eq]; omega
    have a3 : (Nat.beq OPEN OPEN && rowSz hp b == some 2) = true := by
      unfold rowSz; rw [hg, Nat.beq_refl]; rfl
    exact ⟨.slice (some ⟨b, o + i * 2, none⟩) (i + 1 - i) OPEN, by simp only [sliceA, un22, sz31, a1, a3, cond_true, cond_false, boundsA, natV_cast, a2], read _⟩

/-- What has been laid so far. -/
structure FInv (m : List Seg) (i : Nat) (T : List UInt8) : Prop where
  le : i ≤ m.length
  ok : (m.take i).all okSeg = true
  len : T.length ≤ 1650 * i
  read : ∀ rest, pMsg [] (T ++ rest) = if 60 < i then ([], 60, 3) else pMsg (m.take i) rest

theorem lf_all (j : Nat) : (List.replicate j (10 : UInt8)).all isLF = true := by
  rw [List.all_eq_true]
  intro c hc
  rw [List.eq_of_mem_replicate hc]; rfl

theorem FInv.step {m : List Seg} {i j : Nat} {T : List UInt8} (h : FInv m i T) (hi : i < m.length) (hj : j ≤ 3) (hx : okSeg (m.getD i default) = true) : FInv m (i + 1) (T ++ List.replicate j 10 ++ prSeg (m.getD i default)) := by
  have hs := take_snoc (d := default) hi
  have hl := seg_len hx
  refine ⟨hi, ?_, ?_, fun rest => ?_⟩
  · rw [hs, List.all_append, h.ok]; simp only [List.all_cons, List.all_nil, hx]; rfl
  · have := h.len
    rw [List.length_append, List.length_append, List.length_replicate]; omega
  · have e : T ++ List.replicate j 10 ++ prSeg (m.getD i default) ++ rest = T ++ (List.replicate j 10 ++ prSeg (m.getD i default) ++ rest) := by simp only [List.append_assoc]
    have hlen : (m.take i).length = i := by rw [List.length_take]; omega
    rw [e, h.read, pMsg_seg hx (lf_all j), hlen, hs]
    by_cases q : 60 < i
    · rw [if_pos q, if_pos (by omega)]
    · rw [if_neg q]
      by_cases q2 : i = 60
      · rw [if_pos q2, if_pos (by omega), q2]
      · rw [if_neg q2, if_neg (by omega)]

set_option maxHeartbeats 4000000 in
theorem feeds_c {hp : Tr AObj} {nx : Nat} {v vb : Value} {m : List Seg} {bs : List UInt8} (hm : RdMsg hp v m) (hcap : ∃ ba ca, v = .slice ba m.length ca ∧ (m.length ≤ ca ∧ ca < OPEN ∨ ca = OPEN)) (hb : RdBytes hp vb bs) (hfit : Fits m) (hf : Fr hp nx) :
    ACall Tryz.prog 0 6 [v, vb] hp nx (fun v hp' nx' => v = .bool true ∧ hp' = hp ∧ nx' = nx) := by
  refine ACall.pure (S := fun v hp' _ => v = .bool true ∧ Sub hp hp') ?_ (fun v hp' nx' h => h) rfl
  obtain ⟨ba, ca, rfl, hcap⟩ := hcap
  obtain ⟨bb, cb, rfl, hbb⟩ := hb
  have hlm : m.length < 281474976710656 := hfit.1
  refine acall_fn named7 Tryz.func6 rfl rfl ?_
  show AW _ _ _ _ ⟨tms [(1, .slice bb bs.length cb), (0, .slice ba m.length ca)], hp, nx, []⟩ _
  refine aw_seq (aw_reg ?_)
  refine s_t (x_q (e_assign rfl) rfl ?_)
  refine s_nil ?_
  refine aw_seq (aw_seq (aw_reg ?_))
  refine s_t (x_q (e_move rfl) rfl ?_)
  refine s_t (x_call rfl rfl rfl (brief_c hm hfit) ?_)
  rintro _ h1 n1 ⟨b, rfl, e1, e2⟩
  obtain rfl : hp = h1 := e1.symm
  obtain rfl : nx = n1 := e2.symm
  cases b with
  | false =>
    refine s_t (x_q (e_un rfl rfl) rfl ?_)
    refine s_t (x_q (e_move rfl) rfl ?_)
    refine s_n rfl rfl ?_
    refine s_n rfl rfl ?_
    refine s_n rfl rfl ?_
    refine s_t (x_q (e_pickT rfl rfl rfl) rfl ?_)
    refine s_nil ?_
    refine (aw_ifT rfl ?_)
    refine aw_seq (aw_reg ?_)
    refine s_t (x_pure rfl rfl rfl (alive_c _ _) ?_)
    refine s_t (x_q (e_assign rfl) rfl ?_)
    refine s_nil ?_
    exact aw_ret (fn_ret rfl ⟨rfl, Sub.refl _⟩)
  | true =>
  by_cases h100 : 100 < bs.length
  · refine s_t (x_q (e_un rfl rfl) rfl ?_)
    refine s_t (x_q (e_move rfl) rfl ?_)
    refine s_g rfl (x_q (e_move rfl) rfl ?_)
    refine s_g rfl (x_q (e_len rfl (lenSl un34)) rfl ?_)
    refine s_g rfl (x_q (e_bin rfl rfl (dT (by omega))) rfl ?_)
    refine s_t (x_q (e_pickF rfl rfl rfl) rfl ?_)
    refine s_nil ?_
    refine (aw_ifT rfl ?_)
    refine aw_seq (aw_reg ?_)
    refine s_t (x_pure rfl rfl rfl (alive_c _ _) ?_)
    refine s_t (x_q (e_assign rfl) rfl ?_)
    refine s_nil ?_
    exact aw_ret (fn_ret rfl ⟨rfl, Sub.refl _⟩)
  refine s_t (x_q (e_un rfl rfl) rfl ?_)
  refine s_t (x_q (e_move rfl) rfl ?_)
  refine s_g rfl (x_q (e_move rfl) rfl ?_)
  refine s_g rfl (x_q (e_len rfl (lenSl un34)) rfl ?_)
  refine s_g rfl (x_q (e_bin rfl rfl (dF (by omega))) rfl ?_)
  refine s_t (x_q (e_pickF rfl rfl rfl) rfl ?_)
  refine s_nil ?_
  refine (aw_ifF rfl (aw_skip ?_))
  refine aw_seq (aw_reg ?_)
  refine s_t (x_q (e_assign rfl) rfl ?_)
  refine s_nil ?_
  refine aw_seq (aw_seq (aw_reg ?_))
  refine s_t (x_q (e_assign rfl) rfl ?_)
  refine s_nil ?_
  refine aw_block (aw_loop (α := Nat × List UInt8) (fun x => ⟨tms [(0, .slice ba m.length ca), (1, .slice bb bs.length cb), (5, .string ⟨x.2.toArray⟩), (6, .int .i64 (x.1 : Int))], hp, nx, []⟩) (fun x => FInv m x.1 x.2) (fun x => m.length - x.1) (0, []) ⟨Nat.zero_le _, rfl, Nat.le_refl _, fun _ => rfl⟩ (wk_tms (wk_cons rfl (wk_cons rfl (wk_cons rfl (wk_cons rfl wk_nil)))) sub_rfl (Nat.le_refl _)) ?_)
  rintro ⟨i, T⟩ hinv
  dsimp only at hinv ⊢
  have hi := hinv.le
  have hTl := hinv.len
  refine aw_seq (aw_seq (aw_reg ?_))
  refine s_t (x_q (e_move rfl) rfl ?_)
  refine s_t (x_q (e_move rfl) rfl ?_)
  refine s_t (x_q (e_len rfl (lenSl un22)) rfl ?_)
  refine s_t (x_q (e_bin rfl rfl (dT (by omega))) rfl ?_)
  refine s_nil ?_
  refine (aw_ifT rfl (aw_skip ?_))
  refine aw_seq (aw_block ?_)
  refine aw_seq (aw_mono (Q := fun x st => x = .normal ∧ ∃ j, j ≤ 3 ∧ Wk st ⟨tms [(0, .slice ba m.length ca), (1, .slice bb bs.length cb), (5, .string ⟨(T ++ List.replicate j 10).toArray⟩), (6, .int .i64 (i : Int))], hp, nx, []⟩) ?_ ?_)
  · refine aw_seq (aw_reg ?_)
    refine s_t (x_q (e_assign rfl) rfl ?_)
    refine s_nil ?_
    refine aw_block (aw_loop (α := Nat) (fun j => ⟨tms [(0, .slice ba m.length ca), (1, .slice bb bs.length cb), (5, .string ⟨(T ++ List.replicate j 10).toArray⟩), (6, .int .i64 (i : Int)), (7, .int .i64 (j : Int))], hp, nx, []⟩) (fun j => j ≤ 3) (fun j => 3 - j) 0 (Nat.zero_le _) (wk_tms (wk_cons rfl (wk_cons rfl (wk_cons (by rw [List.replicate_zero, List.append_nil]; rfl) (wk_cons rfl (wk_cons rfl wk_nil))))) sub_rfl (Nat.le_refl _)) ?_)
    intro j hj
    by_cases hib : i < bs.length
    · obtain ⟨b3, o3, c3, e3, fz3, ro3, hd3, rfl, hg3, hc3⟩ := hbb (by omega)
      obtain ⟨u, q3, rfl⟩ := hc3 i hib
      generalize bs.getD i 0 = c at q3
      have hc4 : c.toNat % 4 < 4 := Nat.mod_lt _ (by decide)
      by_cases hjc : j < c.toNat % 4
      · refine aw_seq (aw_seq (aw_reg ?_))
        refine s_t (x_q (e_move rfl) rfl ?_)
        refine s_t (x_q (e_move rfl) rfl ?_)
        refine s_t (x_q (e_len rfl (lenSl un34)) rfl ?_)
        refine s_t (x_q (e_bin rfl rfl (dT (by omega))) rfl ?_)
        refine s_t (x_q (e_move rfl) rfl ?_)
        refine s_g rfl (x_q (e_move rfl) rfl ?_)
        refine s_g rfl (x_q (e_move rfl) rfl ?_)
        refine s_g rfl (x_q (e_move rfl) rfl ?_)
        refine s_g rfl (x_q (e_ia rfl rfl (iaSl un34 sz5 hib)) rfl ?_)
        refine s_g rfl (x_q (e_load rfl (ld1 ag5 hg3 q3)) rfl ?_)
        refine s_g rfl (x_q (e_bin rfl rfl (rem4 c)) rfl ?_)
        refine s_g rfl (x_q (e_conv rfl (by kernel_rfl) (cv5_3 _ _ (by omega))) rfl ?_)
        refine s_g rfl (x_q (e_bin rfl rfl (dT (by omega))) rfl ?_)
        refine s_t (x_q (e_pickT rfl rfl rfl) rfl ?_)
        refine s_nil ?_
        refine (aw_ifT rfl (aw_skip ?_))
        refine aw_seq (aw_block ?_)
        refine aw_reg ?_
        refine s_t (x_q (e_move rfl) rfl ?_)
        refine s_t (x_q (e_bin rfl rfl (cat (U := [10]) (by rw [List.length_append, List.length_replicate, List.length_singleton]; omega))) rfl ?_)
        refine s_t (x_q (e_assign rfl) rfl ?_)
        refine s_nil ?_
        refine aw_reg ?_
        refine s_t (x_q (e_move rfl) rfl ?_)
        refine s_t (x_q (e_bin rfl rfl (b_addN _ 1 (by omega))) rfl ?_)
        refine s_t (x_q (e_assign rfl) rfl ?_)
        refine s_nil ?_
        exact ⟨j + 1, by omega, by omega, wk_tms (wk_cons rfl (wk_cons rfl (wk_cons (by rw [List.replicate_succ', ← List.append_assoc]; rfl) (wk_cons rfl (wk_cons rfl wk_nil))))) sub_rfl (Nat.le_refl _)⟩
      · refine aw_seq (aw_seq (aw_reg ?_))
        refine s_t (x_q (e_move rfl) rfl ?_)
        refine s_t (x_q (e_move rfl) rfl ?_)
        refine s_t (x_q (e_len rfl (lenSl un34)) rfl ?_)
        refine s_t (x_q (e_bin rfl rfl (dT (by omega))) rfl ?_)
        refine s_t (x_q (e_move rfl) rfl ?_)
        refine s_g rfl (x_q (e_move rfl) rfl ?_)
        refine s_g rfl (x_q (e_move rfl) rfl ?_)
        refine s_g rfl (x_q (e_move rfl) rfl ?_)
        refine s_g rfl (x_q (e_ia rfl rfl (iaSl un34 sz5 hib)) rfl ?_)
        refine s_g rfl (x_q (e_load rfl (ld1 ag5 hg3 q3)) rfl ?_)
        refine s_g rfl (x_q (e_bin rfl rfl (rem4 c)) rfl ?_)
        refine s_g rfl (x_q (e_conv rfl (by kernel_rfl) (cv5_3 _ _ (by omega))) rfl ?_)
        refine s_g rfl (x_q (e_bin rfl rfl (dF (by omega))) rfl ?_)
        refine s_t (x_q (e_pickT rfl rfl rfl) rfl ?_)
        refine s_nil ?_
        refine (aw_ifF rfl (aw_exit ?_))
        exact ⟨rfl, j, hj, wk_tms (wk_cons rfl (wk_cons rfl (wk_cons rfl (wk_cons rfl wk_nil)))) sub_rfl (Nat.le_refl _)⟩
    · refine aw_seq (aw_seq (aw_reg ?_))
      refine s_t (x_q (e_move rfl) rfl ?_)
      refine s_t (x_q (e_move rfl) rfl ?_)
      refine s_t (x_q (e_len rfl (lenSl un34)) rfl ?_)
      refine s_t (x_q (e_bin rfl rfl (dF (by omega))) rfl ?_)
      refine s_t (x_q (e_move rfl) rfl ?_)
      refine s_n rfl rfl ?_
      refine s_n rfl rfl ?_
      refine s_n rfl rfl ?_
      refine s_n rfl rfl ?_
      refine s_n rfl rfl ?_
      refine s_n rfl rfl ?_
      refine s_n rfl rfl ?_
      refine s_n rfl rfl ?_
      refine s_t (x_q (e_pickF rfl rfl rfl) rfl ?_)
      refine s_nil ?_
      refine (aw_ifF rfl (aw_exit ?_))
      exact ⟨rfl, j, hj, wk_tms (wk_cons rfl (wk_cons rfl (wk_cons rfl (wk_cons rfl wk_nil)))) sub_rfl (Nat.le_refl _)⟩
  rintro _ st ⟨rfl, j, hj, hwk⟩
  refine aw_wk hwk ?_
  clear hwk
  by_cases hil : i = m.length
  case neg =>
    have hlt : i < m.length := by omega
    obtain ⟨w, hsl, hmw⟩ := slMsg hm hcap hlt
    have hx1 : okMsg [m.getD i default] = okSeg (m.getD i default) := by unfold okMsg; simp
    have hfx := hfit.2 _ (getD_mem (d := default) hlt)
    have hp9 := print_c hmw ⟨by show 1 < BIG; decide, fun x hx => by rw [List.mem_singleton.1 hx]; exact hfx⟩ hf
    refine aw_seq (aw_seq (aw_reg ?_))
    refine s_t (x_q (e_move rfl) rfl ?_)
    refine s_t (x_q (e_move rfl) rfl ?_)
    refine s_t (x_q (e_len rfl (lenSl un22)) rfl ?_)
    refine s_t (x_q (e_bin rfl rfl (eF (by omega))) rfl ?_)
    refine s_nil ?_
    refine (aw_ifF rfl (aw_skip ?_))
    cases hok : okSeg (m.getD i default) with
    | false =>
      rw [prV_no (hx1.trans hok)] at hp9
      refine aw_seq (aw_reg ?_)
      refine s_t (x_q (e_move rfl) rfl ?_)
      refine s_t (x_q (e_move rfl) rfl ?_)
      refine s_t (x_q (e_move rfl) rfl ?_)
      refine s_t (x_q (e_bin rfl rfl (b_addN _ 1 (by omega))) rfl ?_)
      refine s_t (x_q (e_slice rfl rfl rfl rfl hsl) rfl ?_)
      refine s_t (x_pure rfl rfl rfl (hp9) ?_)
      refine s_t (x_q (e_move rfl) rfl ?_)
      refine s_t (x_q (e_ext rfl rfl) rfl ?_)
      refine s_t (x_q (e_ext rfl rfl) rfl ?_)
      refine s_t (x_q (e_assign rfl) rfl ?_)
      refine s_t (x_q (e_assign rfl) rfl ?_)
      refine s_nil ?_
      refine aw_seq (aw_seq (aw_reg ?_))
      refine s_t (x_q (e_move rfl) rfl ?_)
      refine s_t (x_q (e_bin rfl rfl (nT (by decide))) rfl ?_)
      refine s_nil ?_
      refine (aw_ifT rfl ?_)
      refine aw_seq (aw_reg ?_)
      refine s_t (x_q (e_move rfl) rfl ?_)
      refine s_t (x_q (e_bin rfl rfl (eT rfl)) rfl ?_)
      refine s_t (x_q (e_move rfl) rfl ?_)
      refine s_g rfl (x_pure rfl rfl rfl (alive_c _ _) ?_)
      refine s_t (x_q (e_pickT rfl rfl rfl) rfl ?_)
      refine s_t (x_q (e_assign rfl) rfl ?_)
      refine s_nil ?_
      exact aw_ret (fn_ret rfl ⟨rfl, Sub.refl _⟩)
    | true =>
      have hstep := hinv.step hlt hj hok
      have hpm : prMsg [m.getD i default] = prSeg (m.getD i default) := by rw [prMsg_flat]; simp
      have hsl2 := seg_len hok
      rw [prV_ok (hx1.trans hok), hpm] at hp9
      refine aw_seq (aw_reg ?_)
      refine s_t (x_q (e_move rfl) rfl ?_)
      refine s_t (x_q (e_move rfl) rfl ?_)
      refine s_t (x_q (e_move rfl) rfl ?_)
      refine s_t (x_q (e_bin rfl rfl (b_addN _ 1 (by omega))) rfl ?_)
      refine s_t (x_q (e_slice rfl rfl rfl rfl hsl) rfl ?_)
      refine s_t (x_pure rfl rfl rfl (hp9) ?_)
      refine s_t (x_q (e_move rfl) rfl ?_)
      refine s_t (x_q (e_ext rfl rfl) rfl ?_)
      refine s_t (x_q (e_ext rfl rfl) rfl ?_)
      refine s_t (x_q (e_assign rfl) rfl ?_)
      refine s_t (x_q (e_assign rfl) rfl ?_)
      refine s_nil ?_
      refine aw_seq (aw_seq (aw_reg ?_))
      refine s_t (x_q (e_move rfl) rfl ?_)
      refine s_t (x_q (e_bin rfl rfl (nF rfl)) rfl ?_)
      refine s_nil ?_
      refine (aw_ifF rfl (aw_skip ?_))
      refine aw_reg ?_
      refine s_t (x_q (e_move rfl) rfl ?_)
      refine s_t (x_q (e_move rfl) rfl ?_)
      refine s_t (x_q (e_bin rfl rfl (cat (by rw [List.length_append, List.length_replicate]; omega))) rfl ?_)
      refine s_t (x_q (e_assign rfl) rfl ?_)
      refine s_nil ?_
      refine aw_reg ?_
      refine s_t (x_q (e_move rfl) rfl ?_)
      refine s_t (x_q (e_bin rfl rfl (b_addN _ 1 (by omega))) rfl ?_)
      refine s_t (x_q (e_assign rfl) rfl ?_)
      refine s_nil ?_
      exact ⟨(i + 1, _), hstep, by show m.length - (i + 1) < m.length - i; omega, wk_tms (wk_cons rfl (wk_cons rfl (wk_cons rfl (wk_cons rfl wk_nil)))) sub_rfl (Nat.le_refl _)⟩
  refine aw_seq (aw_seq (aw_reg ?_))
  refine s_t (x_q (e_move rfl) rfl ?_)
  refine s_t (x_q (e_move rfl) rfl ?_)
  refine s_t (x_q (e_len rfl (lenSl un22)) rfl ?_)
  refine s_t (x_q (e_bin rfl rfl (eT (by omega))) rfl ?_)
  refine s_nil ?_
  refine (aw_ifT rfl (aw_exit ?_))
  have hread := hinv.read (List.replicate j 10)
  have htk : m.take i = m := List.take_of_length_le (by omega)
  rw [htk, pMsg_end (lf_all j), hil] at hread
  have hT2 : (T ++ List.replicate j 10).length ≤ 1650 * i + 3 := by rw [List.length_append, List.length_replicate]; omega
  generalize T ++ List.replicate j 10 = T' at *
  have hpar : pParse ⟨T'.toArray⟩ = if 20000 < T'.length then ([], 0, 3) else if 60 < m.length then ([], 60, 3) else (m, 0, 0) := by
    unfold pParse
    rw [arr_size]
    by_cases q : 20000 < T'.length
    · rw [if_pos q, if_pos q]
    · rw [if_neg q, if_neg q]; exact hread
  by_cases h60 : 60 < m.length
  · have hp3 : ∃ n : Nat, pParse ⟨T'.toArray⟩ = ([], n, 3) := by
      rw [hpar, if_pos h60]
      split
      · exact ⟨0, rfl⟩
      · exact ⟨60, rfl⟩
    obtain ⟨n, hp3⟩ := hp3
    refine aw_seq (aw_reg ?_)
    refine s_t (x_q (e_move rfl) rfl ?_)
    refine s_t (x_call rfl rfl rfl (parse_c hf) ?_)
    rintro _ h2 n2 ⟨hv, k1, k2, k3⟩
    unfold ParseV at hv
    rw [hp3] at hv
    obtain ⟨mv, rfl, hmv⟩ := hv
    refine s_t (x_q (e_move rfl) rfl ?_)
    refine s_t (x_q (e_ext rfl rfl) rfl ?_)
    refine s_t (x_q (e_ext rfl rfl) rfl ?_)
    refine s_t (x_q (e_ext rfl rfl) rfl ?_)
    refine s_t (x_q (e_assign rfl) rfl ?_)
    refine s_t (x_q (e_assign rfl) rfl ?_)
    refine s_t (x_q (e_assign rfl) rfl ?_)
    refine s_nil ?_
    refine aw_seq (aw_seq (aw_reg ?_))
    refine s_t (x_q (e_move rfl) rfl ?_)
    refine s_t (x_q (e_len rfl (lenSl un22)) rfl ?_)
    refine s_t (x_q (e_bin rfl rfl (dT (by omega))) rfl ?_)
    refine s_t (x_q (e_move rfl) rfl ?_)
    refine s_n rfl rfl ?_
    refine s_n rfl rfl ?_
    refine s_n rfl rfl ?_
    refine s_t (x_q (e_pickT rfl rfl rfl) rfl ?_)
    refine s_nil ?_
    refine (aw_ifT rfl ?_)
    refine aw_seq (aw_reg ?_)
    refine s_t (x_q (e_move rfl) rfl ?_)
    refine s_t (x_q (e_bin rfl rfl (eT rfl)) rfl ?_)
    refine s_t (x_q (e_move rfl) rfl ?_)
    refine s_g rfl (x_pure rfl rfl rfl (alive_c _ _) ?_)
    refine s_t (x_q (e_pickT rfl rfl rfl) rfl ?_)
    refine s_t (x_q (e_assign rfl) rfl ?_)
    refine s_nil ?_
    exact aw_ret (fn_ret rfl ⟨rfl, fun i o e => by rw [k3 i (hf i o e)]; exact e⟩)
  rw [if_neg h60] at hpar
  by_cases h20 : 20000 < T'.length
  · rw [if_pos h20] at hpar
    refine aw_seq (aw_reg ?_)
    refine s_t (x_q (e_move rfl) rfl ?_)
    refine s_t (x_call rfl rfl rfl (parse_c hf) ?_)
    rintro _ h2 n2 ⟨hv, k1, k2, k3⟩
    unfold ParseV at hv
    rw [hpar] at hv
    obtain ⟨mv, rfl, hmv⟩ := hv
    refine s_t (x_q (e_move rfl) rfl ?_)
    refine s_t (x_q (e_ext rfl rfl) rfl ?_)
    refine s_t (x_q (e_ext rfl rfl) rfl ?_)
    refine s_t (x_q (e_ext rfl rfl) rfl ?_)
    refine s_t (x_q (e_assign rfl) rfl ?_)
    refine s_t (x_q (e_assign rfl) rfl ?_)
    refine s_t (x_q (e_assign rfl) rfl ?_)
    refine s_nil ?_
    refine aw_seq (aw_seq (aw_reg ?_))
    refine s_t (x_q (e_move rfl) rfl ?_)
    refine s_t (x_q (e_len rfl (lenSl un22)) rfl ?_)
    refine s_t (x_q (e_bin rfl rfl (dF (by omega))) rfl ?_)
    refine s_t (x_q (e_move rfl) rfl ?_)
    refine s_g rfl (x_q (e_move rfl) rfl ?_)
    refine s_g rfl (x_q (e_len rfl (lenStr un9)) rfl ?_)
    refine s_g rfl (x_q (e_bin rfl rfl (dT (by rw [arr_size]; omega))) rfl ?_)
    refine s_t (x_q (e_pickF rfl rfl rfl) rfl ?_)
    refine s_nil ?_
    refine (aw_ifT rfl ?_)
    refine aw_seq (aw_reg ?_)
    refine s_t (x_q (e_move rfl) rfl ?_)
    refine s_t (x_q (e_bin rfl rfl (eT rfl)) rfl ?_)
    refine s_t (x_q (e_move rfl) rfl ?_)
    refine s_g rfl (x_pure rfl rfl rfl (alive_c _ _) ?_)
    refine s_t (x_q (e_pickT rfl rfl rfl) rfl ?_)
    refine s_t (x_q (e_assign rfl) rfl ?_)
    refine s_nil ?_
    exact aw_ret (fn_ret rfl ⟨rfl, fun i o e => by rw [k3 i (hf i o e)]; exact e⟩)
  rw [if_neg h20] at hpar
  refine aw_seq (aw_reg ?_)
  refine s_t (x_q (e_move rfl) rfl ?_)
  refine s_t (x_call rfl rfl rfl (parse_c hf) ?_)
  rintro _ h2 n2 ⟨hv, k1, k2, k3⟩
  unfold ParseV at hv
  rw [hpar] at hv
  obtain ⟨mv, rfl, hmv⟩ := hv
  refine s_t (x_q (e_move rfl) rfl ?_)
  refine s_t (x_q (e_ext rfl rfl) rfl ?_)
  refine s_t (x_q (e_ext rfl rfl) rfl ?_)
  refine s_t (x_q (e_ext rfl rfl) rfl ?_)
  refine s_t (x_q (e_assign rfl) rfl ?_)
  refine s_t (x_q (e_assign rfl) rfl ?_)
  refine s_t (x_q (e_assign rfl) rfl ?_)
  refine s_nil ?_
  have hs2 : Sub hp h2 := fun i o e => by rw [k3 i (hf i o e)]; exact e
  refine aw_seq (aw_seq (aw_reg ?_))
  refine s_t (x_q (e_move rfl) rfl ?_)
  refine s_t (x_q (e_len rfl (lenSl un22)) rfl ?_)
  refine s_t (x_q (e_bin rfl rfl (dF (by omega))) rfl ?_)
  refine s_t (x_q (e_move rfl) rfl ?_)
  refine s_g rfl (x_q (e_move rfl) rfl ?_)
  refine s_g rfl (x_q (e_len rfl (lenStr un9)) rfl ?_)
  refine s_g rfl (x_q (e_bin rfl rfl (dF (by rw [arr_size]; omega))) rfl ?_)
  refine s_t (x_q (e_pickF rfl rfl rfl) rfl ?_)
  refine s_nil ?_
  refine (aw_ifF rfl (aw_skip ?_))
  refine aw_seq (aw_reg ?_)
  refine s_t (x_q (e_move rfl) rfl ?_)
  refine s_t (x_q (e_bin rfl rfl (eT rfl)) rfl ?_)
  refine s_t (x_q (e_move rfl) rfl ?_)
  refine s_g rfl (x_q (e_move rfl) rfl ?_)
  refine s_g rfl (x_q (e_bin rfl rfl (eT rfl)) rfl ?_)
  refine s_t (x_q (e_pickT rfl rfl rfl) rfl ?_)
  refine s_t (x_q (e_move rfl) rfl ?_)
  refine s_g rfl (x_q (e_move rfl) rfl ?_)
  refine s_g rfl (x_q (e_move rfl) rfl ?_)
  refine s_g rfl (x_pure rfl rfl rfl (messages_c (r := true) hmv (hm.mono hs2) hfit hfit (by simp)) ?_)
  refine s_t (x_q (e_pickT rfl rfl rfl) rfl ?_)
  refine s_t (x_q (e_move rfl) rfl ?_)
  refine s_g rfl (x_pure rfl rfl rfl (alive_c _ _) ?_)
  refine s_t (x_q (e_pickT rfl rfl rfl) rfl ?_)
  refine s_t (x_q (e_assign rfl) rfl ?_)
  refine s_nil ?_
  exact aw_ret (fn_ret rfl ⟨rfl, hs2⟩)
end Go.Proofs.YtkjkoejnicbieaaGreat.AM
namespace Go.Proofs.YtkjkoejnicbieaaGreat.AM
open Go Go.RowKit

def lin : Seg := ⟨⟨#[76, 73, 78]⟩, [[⟨#[97]⟩]]⟩
def LT : List UInt8 := [76, 73, 78, 43, 97, 39]
theorem lin_ok : okSeg lin = true := by decide
theorem lin_pr : prSeg lin = LT := by decide

theorem pMsg_lf {lf : List UInt8} (h : lf.all isLF = true) (acc : List Seg) (r : List UInt8) : pMsg acc (lf ++ r) = pMsg acc r := by
  have : (lf ++ r).dropWhile isLF = r.dropWhile isLF := by
    induction lf with
    | nil => rfl
    | cons c lf ih => simp only [List.all_cons, Bool.and_eq_true] at h; simp [h.1, ih h.2]
  rw [pMsg_eq, this, ← pMsg_eq]

def lfs (f : Bool) : List UInt8 := if f then [10] else []
theorem lfs_all (f : Bool) : (lfs f).all isLF = true := by cases f <;> rfl
def txt (f : Bool) : Nat → List UInt8
  | 0 => []
  | k + 1 => txt f k ++ LT ++ lfs f
theorem txt_len (f : Bool) (k : Nat) : (txt f k).length ≤ 7 * k := by
  induction k with
  | zero => exact Nat.le_refl _
  | succ k ih =>
    have : (lfs f).length ≤ 1 := by cases f <;> decide
    have h6 : LT.length = 6 := rfl
    rw [txt, List.length_append, List.length_append]; omega
theorem txt_read (f : Bool) : ∀ (k : Nat) (r : List UInt8), pMsg [] (txt f k ++ r) = if 60 < k then ([], 60, 3) else pMsg (List.replicate k lin) r := by
  intro k
  induction k with
  | zero => intro r; rfl
  | succ k ih =>
    intro r
    have e : txt f (k + 1) ++ r = txt f k ++ ([] ++ prSeg lin ++ (lfs f ++ r)) := by rw [lin_pr, txt]; simp only [List.append_assoc, List.nil_append]
    rw [e, ih, pMsg_seg lin_ok (lf := []) rfl, List.length_replicate, pMsg_lf (lfs_all f)]
    have e2 : List.replicate k lin ++ [lin] = List.replicate (k + 1) lin := by rw [List.replicate_succ']
    rw [e2]
    by_cases q : 60 < k
    · rw [if_pos q, if_pos (by omega)]
    · rw [if_neg q]
      by_cases q2 : k = 60
      · rw [if_pos q2, if_pos (by omega), q2]
      · rw [if_neg q2, if_neg (by omega)]
theorem txt_parse (f : Bool) {k : Nat} (hk : k ≤ 61) : pParse ⟨(txt f k).toArray⟩ = if 60 < k then ([], 60, 3) else (List.replicate k lin, 0, 0) := by
  have hl := txt_len f k
  unfold pParse
  rw [arr_size, if_neg (by omega)]
  have := txt_read f k []
  rw [List.append_nil] at this
  show pMsg [] (txt f k) = _
  rw [this]
  split
  · rfl
  · exact pMsg_end rfl _
theorem rep_ok (k : Nat) : (List.replicate k lin).all okSeg = true := by
  rw [List.all_eq_true]; intro x hx; rw [List.eq_of_mem_replicate hx]; exact lin_ok
theorem rep_okMsg {k : Nat} : okMsg (List.replicate k lin) = decide (k ≤ 60) := by
  unfold okMsg; rw [rep_ok, List.length_replicate, Bool.and_true]
theorem rep_pr (k : Nat) : (prMsg (List.replicate k lin)).length = 6 * k := by
  rw [prMsg_flat]
  induction k with
  | zero => rfl
  | succ k ih =>
    have h6 : (prSeg lin).length = 6 := by rw [lin_pr]; rfl
    rw [List.replicate_succ, List.flatMap_cons, List.length_append, ih, h6]; omega
theorem rep_fits (k : Nat) (h : k < BIG) : Fits (List.replicate k lin) := by
  refine ⟨by rw [List.length_replicate]; exact h, fun x hx => ?_⟩
  rw [List.eq_of_mem_replicate hx]
  refine ⟨by decide, by decide, fun y hy => ?_⟩
  rw [List.mem_singleton.1 hy]
  exact ⟨by decide, fun s hs => by rw [List.mem_singleton.1 hs]; decide⟩

/-! ### The rows -/
structure LInv (hp0 : Tr AObj) (nx0 : Nat) (ob : Option Nat) (M : ML) (hp : Tr AObj) (nx : Nat) : Prop where
  own : Own hp nx 31 2 ob M.length (mvL M)
  rd : ∀ p ∈ M, p.1 = lin ∧ RdEls (unO hp ob) p.2 lin.els
  fr : Fr hp nx
  le : nx0 ≤ nx
  low : ∀ b, ob = some b → nx0 ≤ b
  frame : ∀ i, i < nx0 → hp.get i = hp0.get i

theorem unO_get {hp : Tr AObj} {ob : Option Nat} {i : Nat} {o : AObj} (h : (unO hp ob).get i = some o) : ob ≠ some i ∧ hp.get i = some o := by
  cases ob with
  | none => exact ⟨fun e => (by cases e), h⟩
  | some b =>
    simp only [unO, Tr.get_set] at h
    split at h
    · cases h
    · rename_i hib; exact ⟨fun e => hib (by cases e; rfl), h⟩
theorem unO_mk {hp : Tr AObj} {ob : Option Nat} {i : Nat} {o : AObj} (h2 : ob ≠ some i) (h3 : hp.get i = some o) : (unO hp ob).get i = some o := by
  cases ob with
  | none => exact h3
  | some b => exact (Tr.get_set_ne _ _ (fun e => h2 (by rw [e]))).trans h3

theorem LInv.rdMsg {hp0 hp : Tr AObj} {nx0 nx : Nat} {ob : Option Nat} {M : ML} (g : LInv hp0 nx0 ob M hp nx) : RdMsg hp (ownV ob M.length) (List.replicate M.length lin) := by
  have hl : (List.replicate M.length lin).length = M.length := by simp
  obtain ⟨_, h2⟩ := g.own
  cases ob with
  | none => exact ⟨none, 0, by rw [hl, h2]; rfl, fun hn => by rw [hl] at hn; simp only at h2; omega⟩
  | some b =>
    refine ⟨some ⟨b, 0, none⟩, OPEN, by rw [hl]; rfl, fun hn => ⟨b, 0, mvL M, 31, 0, false, true, rfl, h2.2.2, fun i hi => ?_⟩⟩
    rw [hl] at hi
    have hg := getD_some (d := ((default, undef) : Seg × Value)) hi
    have hm := getD_mem (d := ((default, undef) : Seg × Value)) hi
    have hc : ∀ (M : ML) (i : Nat) (p : Seg × Value), M[i]? = some p → (mvL M)[i * 2]? = some (.string p.1.tag) ∧ (mvL M)[i * 2 + 1]? = some p.2 := by
      intro M
      induction M with
      | nil => intro i p h; cases h
      | cons q M ih =>
        intro i p h
        cases i with
        | zero => cases h; exact ⟨rfl, rfl⟩
        | succ i =>
          have := ih i p (by simpa using h)
          have e2 : mvL (q :: M) = .string q.1.tag :: q.2 :: mvL M := rfl
          rw [e2, show (i + 1) * 2 = i * 2 + 1 + 1 from by omega]
          exact this
    have e : (List.replicate M.length lin).getD i default = lin := by
      rw [List.getD_eq_getElem?_getD, List.getElem?_replicate, if_pos hi]; rfl
    rw [e, Nat.zero_add]
    obtain ⟨c1, c2⟩ := hc M i _ hg
    obtain ⟨r1, r2⟩ := g.rd _ hm
    rw [r1] at c1
    exact ⟨c1, _, c2, r2.mono fun i o h => (unO_get h).2⟩

theorem bs29v (nx b : Nat) : buildSliceA Tryz.prog nx 29 1 [(0, .slice (some ⟨b, 0, none⟩) 1 1)] = some (.slice (some ⟨nx, 0, none⟩) 1 1, .cells [.slice (some ⟨b, 0, none⟩) 1 1] 28 1 0 false true) := by kernel_rfl
theorem bd31v (t : ByteArray) (b : Nat) : buildA Tryz.prog 31 [(0, .string t), (1, .slice (some ⟨b, 0, none⟩) 1 1)] = some (.agg #[.string t, .slice (some ⟨b, 0, none⟩) 1 1]) := by kernel_rfl

/-- One row more. -/
theorem LInv.add {hp0 hp : Tr AObj} {nx0 nx : Nat} {ob : Option Nat} {M : ML} (g : LInv hp0 nx0 ob M hp nx) (hM : M.length < 100) {h1 h2 h3 : Tr AObj} (e1 : h1 = hp.set nx (some (.cells [.string ⟨#[97]⟩] 9 1 0 false true)))
    (e2 : h2 = h1.set (nx + 1) (some (.cells [.slice (some ⟨nx, 0, none⟩) 1 1] 28 1 0 false true))) (e3 : h3 = h2.set (nx + 1 + 1) (some (.cells [.string lin.tag, .slice (some ⟨nx + 1, 0, none⟩) 1 1] 31 2 0 false true))) :
    ∃ ob' hp' nx' u, appA Tryz.prog h3 (nx + 1 + 1 + 1) 22 22 (ownV ob M.length) (.slice (some ⟨nx + 1 + 1, 0, none⟩) 1 1) = some ⟨some (ownV ob' (M ++ [(lin, u)]).length), hp', nx'⟩ ∧ LInv hp0 nx0 ob' (M ++ [(lin, u)]) hp' nx' := by
  have hlo : ∀ b, ob = some b → b < nx := fun b e => by have := g.own.2; subst e; exact this.2.1
  have s3 : ∀ i, i < nx → h3.get i = hp.get i := fun i hi => by
    rw [e3, Tr.get_set_ne _ _ (by omega), e2, Tr.get_set_ne _ _ (by omega), e1, Tr.get_set_ne _ _ (by omega)]
  have a0 : h3.get nx = some (.cells [.string ⟨#[97]⟩] 9 1 0 false true) := by
    rw [e3, Tr.get_set_ne _ _ (by omega), e2, Tr.get_set_ne _ _ (by omega), e1, Tr.get_set_same]
  have a1 : h3.get (nx + 1) = some (.cells [.slice (some ⟨nx, 0, none⟩) 1 1] 28 1 0 false true) := by
    rw [e3, Tr.get_set_ne _ _ (by omega), e2, Tr.get_set_same]
  have a2 : h3.get (nx + 1 + 1) = some (.cells [.string lin.tag, .slice (some ⟨nx + 1, 0, none⟩) 1 1] 31 2 0 false true) := by rw [e3, Tr.get_set_same]
  have f3 : Fr h3 (nx + 1 + 1 + 1) := by rw [e3, e2, e1]; exact ((g.fr.new _).new _).new _
  obtain ⟨ti, hi, hz, hsz, hbt⟩ := info_of info31
  have ho1 : Own h3 (nx + 1 + 1 + 1) 31 2 ob M.length (mvL M) := g.own.keep (fun b e => s3 b (hlo b e)) (by omega)
  obtain ⟨happ, hown⟩ := own_app (P := Tryz.prog) (t := 22) (u := 22) un22 un22 (fun k h => by cases h) hi hz hsz (by decide) rfl rfl ho1 (x := .slice (some ⟨nx + 1 + 1, 0, none⟩) 1 1) (k := 1) (vs := [.string lin.tag, .slice (some ⟨nx + 1, 0, none⟩) 1 1])
      (by unfold srcA ldCells; simp only [a2]; rfl) (by decide) rfl rfl (by rw [hbt]; omega) (by omega)
  have hlen : (M ++ [(lin, Value.slice (some ⟨nx + 1, 0, none⟩) 1 1)]).length = M.length + 1 := by simp
  refine ⟨some (nx + 1 + 1 + 1), _, nx + 1 + 1 + 1 + 1, .slice (some ⟨nx + 1, 0, none⟩) 1 1, by rw [hlen]; exact happ, ⟨by rw [hlen, mvL_app]; exact hown, fun p hp2 => ?_, (unO_fr f3).new _, ?_, fun b e => ?_, fun i hi2 => ?_⟩⟩
  · have hget : ∀ i, i < nx + 1 + 1 + 1 → ob ≠ some i → ((unO h3 ob).set (nx + 1 + 1 + 1) (some (.cells (mvL M ++ [.string lin.tag, .slice (some ⟨nx + 1, 0, none⟩) 1 1]) 31 2 0 false true))).get i = h3.get i := fun i hi ho => Own.get_other (by omega) ho
    rcases List.mem_append.1 hp2 with hp2 | hp2
    · obtain ⟨r1, r2⟩ := g.rd p hp2
      refine ⟨r1, r2.mono fun i o h => ?_⟩
      obtain ⟨b1, b2⟩ := unO_get h
      have := g.fr i o b2
      exact unO_mk (fun e => by cases e; omega) (by rw [hget i (by omega) b1, s3 i this]; exact b2)
    · rw [List.mem_singleton.1 hp2]
      refine ⟨rfl, some ⟨nx + 1, 0, none⟩, 1, rfl, fun _ => ⟨nx + 1, 0, _, 28, 0, false, true, rfl, unO_mk (fun e => by injection e with e; omega) ((hget _ (by omega) (fun e => by have := hlo _ e; omega)).trans a1), fun i hi => ?_⟩⟩
      have : i = 0 := by simp [lin] at hi; omega
      subst this
      refine ⟨_, rfl, some ⟨nx, 0, none⟩, 1, rfl, fun _ => ⟨nx, 0, _, 9, 0, false, true, rfl, unO_mk (fun e => by injection e with e; omega) ((hget _ (by omega) (fun e => by have := hlo _ e; omega)).trans a0), fun j hj => ?_⟩⟩
      have : j = 0 := by simp [lin] at hj; omega
      subst this
      exact ⟨_, rfl, rfl⟩
  · have := g.le; omega
  · cases e; have := g.le; omega
  · have := g.le
    rw [Own.get_other (by omega) (fun e => by have := g.low i e; omega), s3 i (by omega)]; exact g.frame i hi2

/-! ### The long texts -/
theorem mkN {nx N : Nat} (h : N = 20000) : makeSliceA Tryz.prog nx 34 (.int .i64 20000) (.int .i64 20000) = some (.slice (some ⟨nx, 0, none⟩) N N, .cells (zs N) 5 1 0 false true) := by
  obtain ⟨i, hi, hz, hsz, hbt⟩ := info_of info5
  have a1 : Nat.ble N N = true := by rw [Nat.ble_eq]; exact Nat.le_refl _
  have a2 : Nat.ble (1 * N) 281474976710656 = true := by rw [Nat.ble_eq]; omega
  have e : natV (.int .i64 20000) = some N := by rw [h]; rfl
  simp only [makeSliceA, un34, e, hi, hz, hsz, hbt, a1, a2]
  rfl

theorem bin_eq {a b : ByteArray} (h : a = b) : some (Value.bool (strEq a.data.toList b.data.toList)) = some (Value.bool true) := by subst h; exact tT a

structure LQ where
  k : Nat
  ob : Option Nat
  M : ML
  hp : Tr AObj
  nx : Nat

set_option maxHeartbeats 8000000 in
theorem limits_c {hp : Tr AObj} {nx : Nat} (a f : Bool) (hf : Fr hp nx) :
    ACall Tryz.prog 0 4 [.bool a, .bool f] hp nx (fun v hp' nx' => v = .bool true ∧ hp' = hp ∧ nx' = nx) := by
  refine ACall.pure (S := fun v hp' _ => v = .bool true ∧ Sub hp hp') ?_ (fun v hp' nx' h => h) rfl
  refine acall_fn named7 Tryz.func4 rfl rfl ?_
  show AW _ _ _ _ ⟨tms [(1, .bool f), (0, .bool a)], hp, nx, []⟩ _
  obtain ⟨n, hn⟩ : ∃ n : Nat, n = if a then 61 else 60 := ⟨_, rfl⟩
  have hn61 : n ≤ 61 := by rw [hn]; split <;> omega
  refine aw_seq (aw_reg ?_)
  refine s_t (x_q (e_assign rfl) rfl ?_)
  refine s_nil ?_
  refine aw_seq (aw_reg ?_)
  refine s_t (x_q (e_assign rfl) rfl ?_)
  refine s_nil ?_
  refine aw_seq (aw_mono (Q := fun x st => x = .normal ∧ Wk st ⟨tms [(0, .bool a), (1, .bool f), (5, .int .i64 (n : Int))], hp, nx, []⟩) ?_ ?_)
  · cases a with
    | true =>
      subst hn
      refine aw_seq (aw_reg ?_)
      refine s_t (x_q (e_move rfl) rfl ?_)
      refine s_nil ?_
      refine (aw_ifT rfl ?_)
      refine aw_reg ?_
      refine s_t (x_q (e_move rfl) rfl ?_)
      refine s_t (x_q (e_bin rfl rfl (b_addN 60 1 (by decide))) rfl ?_)
      refine s_t (x_q (e_assign rfl) rfl ?_)
      refine s_nil ?_
      exact ⟨rfl, wk_tms (wk_cons rfl (wk_cons rfl (wk_cons rfl wk_nil))) sub_rfl (Nat.le_refl _)⟩
    | false =>
      subst hn
      refine aw_seq (aw_reg ?_)
      refine s_t (x_q (e_move rfl) rfl ?_)
      refine s_nil ?_
      refine (aw_ifF rfl (aw_skip ?_))
      exact ⟨rfl, wk_tms (wk_cons rfl (wk_cons rfl (wk_cons rfl wk_nil))) sub_rfl (Nat.le_refl _)⟩
  rintro _ st ⟨rfl, hwk⟩
  refine aw_wk hwk ?_
  clear hwk
  refine aw_seq (aw_reg ?_)
  refine s_t (x_q (e_assign rfl) rfl ?_)
  refine s_nil ?_
  refine aw_seq (aw_reg ?_)
  refine s_t (x_q (e_assign rfl) rfl ?_)
  refine s_nil ?_
  refine aw_seq (aw_seq (aw_reg ?_))
  refine s_t (x_q (e_assign rfl) rfl ?_)
  refine s_nil ?_
  refine aw_block (aw_loop (α := LQ) (fun x => ⟨tms [(0, .bool a), (1, .bool f), (5, .int .i64 (n : Int)), (6, .string ⟨(txt f x.k).toArray⟩), (7, ownV x.ob x.M.length), (8, .int .i64 (x.k : Int))], x.hp, x.nx, []⟩) (fun x => x.k ≤ n ∧ x.M.length = x.k ∧ LInv hp nx x.ob x.M x.hp x.nx) (fun x => n - x.k) ⟨0, none, [], hp, nx⟩ ⟨Nat.zero_le _, rfl, ⟨Own.nil _ _ _ _, fun p hp => (by cases hp), hf, Nat.le_refl _, fun b e => (by cases e), fun _ _ => rfl⟩⟩ (wk_tms (wk_cons rfl (wk_cons rfl (wk_cons rfl (wk_cons rfl (wk_cons rfl (wk_cons rfl wk_nil)))))) sub_rfl (Nat.le_refl _)) ?_)
  rintro ⟨k, ob, M, h1, n1⟩ ⟨hk, hM, g⟩
  simp only at hk hM g
  dsimp only
  have htl := txt_len f k
  by_cases hlt : k < n
  · have h6 : LT.length = 6 := rfl
    refine aw_seq (aw_seq (aw_reg ?_))
    refine s_t (x_q (e_move rfl) rfl ?_)
    refine s_t (x_q (e_move rfl) rfl ?_)
    refine s_t (x_q (e_bin rfl rfl (dT (by omega))) rfl ?_)
    refine s_nil ?_
    refine (aw_ifT rfl (aw_skip ?_))
    refine aw_seq (aw_block ?_)
    refine aw_seq (aw_reg ?_)
    refine s_t (x_q (e_move rfl) rfl ?_)
    refine s_t (x_q (e_bin rfl rfl (cat (U := LT) (by omega))) rfl ?_)
    refine s_t (x_q (e_assign rfl) rfl ?_)
    refine s_nil ?_
    refine aw_seq (aw_mono (Q := fun x st => x = .normal ∧ Wk st ⟨tms [(0, .bool a), (1, .bool f), (5, .int .i64 (n : Int)), (6, .string ⟨(txt f (k + 1)).toArray⟩), (7, ownV ob M.length), (8, .int .i64 (k : Int))], h1, n1, []⟩) ?_ ?_)
    · cases f with
      | true =>
        refine aw_seq (aw_reg ?_)
        refine s_t (x_q (e_move rfl) rfl ?_)
        refine s_nil ?_
        refine (aw_ifT rfl ?_)
        refine aw_reg ?_
        refine s_t (x_q (e_move rfl) rfl ?_)
        refine s_t (x_q (e_bin rfl rfl (cat (U := [10]) (by rw [List.length_append, List.length_singleton]; omega))) rfl ?_)
        refine s_t (x_q (e_assign rfl) rfl ?_)
        refine s_nil ?_
        exact ⟨rfl, wk_tms (wk_cons rfl (wk_cons rfl (wk_cons rfl (wk_cons rfl (wk_cons rfl (wk_cons rfl wk_nil)))))) sub_rfl (Nat.le_refl _)⟩
      | false =>
        refine aw_seq (aw_reg ?_)
        refine s_t (x_q (e_move rfl) rfl ?_)
        refine s_nil ?_
        refine (aw_ifF rfl (aw_skip ?_))
        exact ⟨rfl, wk_tms (wk_cons rfl (wk_cons rfl (wk_cons rfl (wk_cons (by show some _ = some _; rw [show txt false (k + 1) = txt false k ++ LT from List.append_nil _]) (wk_cons rfl (wk_cons rfl wk_nil)))))) sub_rfl (Nat.le_refl _)⟩
    rintro _ st ⟨rfl, hwk⟩
    refine aw_wk hwk ?_
    clear hwk
    obtain ⟨ob2, h2, n2, u, happ, g2⟩ := g.add (by omega) rfl rfl rfl
    refine aw_reg ?_
    refine s_t (x_q (e_move rfl) rfl ?_)
    refine s_t (x_bs rfl (bs28 _ _) rfl ?_)
    refine s_t (x_bs rfl (bs29v _ _) rfl ?_)
    refine s_t (x_q (e_build rfl (bd31v _ _)) rfl ?_)
    refine s_t (x_bs rfl (bs22 _ _ _ rfl) rfl ?_)
    refine s_t (x_app rfl rfl happ rfl ?_)
    refine s_t (x_q (e_assign rfl) rfl ?_)
    refine s_nil ?_
    refine aw_reg ?_
    refine s_t (x_q (e_move rfl) rfl ?_)
    refine s_t (x_q (e_bin rfl rfl (b_addN _ 1 (by omega))) rfl ?_)
    refine s_t (x_q (e_assign rfl) rfl ?_)
    refine s_nil ?_
    exact ⟨⟨k + 1, ob2, M ++ [(lin, u)], h2, n2⟩, ⟨by simp only; omega, by simp only [List.length_append, List.length_singleton]; omega, g2⟩, by simp only; omega, wk_tms (wk_cons rfl (wk_cons rfl (wk_cons rfl (wk_cons rfl (wk_cons rfl (wk_cons rfl wk_nil)))))) sub_rfl (Nat.le_refl _)⟩
  refine aw_seq (aw_seq (aw_reg ?_))
  refine s_t (x_q (e_move rfl) rfl ?_)
  refine s_t (x_q (e_move rfl) rfl ?_)
  refine s_t (x_q (e_bin rfl rfl (dF (by omega))) rfl ?_)
  refine s_nil ?_
  refine (aw_ifF rfl (aw_exit ?_))
  have hkn : k = n := by omega
  have hmsg := g.rdMsg
  have hMB : M.length < BIG := by have : BIG = 281474976710656 := rfl; omega
  rw [hM, hkn] at hmsg
  have hpt := txt_parse f hn61
  rw [← hkn] at hpt
  refine aw_seq (aw_reg ?_)
  refine s_t (x_q (e_move rfl) rfl ?_)
  refine s_t (x_call rfl rfl rfl (parse_c g.fr) ?_)
  rintro _ h2 n2 ⟨hv, k1, k2, k3⟩
  unfold ParseV at hv
  generalize hR : pParse ⟨(txt f k).toArray⟩ = R at hv
  obtain ⟨segs, at_, err⟩ := R
  obtain ⟨mv, rfl, hmv⟩ := hv
  simp only at hmv
  refine s_t (x_q (e_move rfl) rfl ?_)
  refine s_t (x_q (e_ext rfl rfl) rfl ?_)
  refine s_t (x_q (e_ext rfl rfl) rfl ?_)
  refine s_t (x_q (e_ext rfl rfl) rfl ?_)
  refine s_t (x_q (e_assign rfl) rfl ?_)
  refine s_t (x_q (e_assign rfl) rfl ?_)
  refine s_t (x_q (e_assign rfl) rfl ?_)
  refine s_nil ?_
  have hs2 : Sub h1 h2 := fun i o e => by rw [k3 i (g.fr i o e)]; exact e
  have hp9 := print_c (hmsg.mono hs2) (rep_fits n (by have : BIG = 281474976710656 := rfl; omega)) k1
  obtain ⟨s9, e9, hv9⟩ := prV_two (List.replicate n lin)
  rw [hv9] at hp9
  rw [hM, hkn]
  refine aw_seq (aw_reg ?_)
  refine s_t (x_q (e_move rfl) rfl ?_)
  refine s_t (x_pure rfl rfl rfl (hp9) ?_)
  refine s_t (x_q (e_move rfl) rfl ?_)
  refine s_t (x_q (e_ext rfl rfl) rfl ?_)
  refine s_t (x_q (e_ext rfl rfl) rfl ?_)
  refine s_t (x_q (e_assign rfl) rfl ?_)
  refine s_t (x_q (e_assign rfl) rfl ?_)
  refine s_nil ?_
  obtain ⟨N, hN⟩ : ∃ N : Nat, N = 20000 := ⟨_, rfl⟩
  refine aw_seq (aw_reg ?_)
  refine s_t (x_make rfl rfl (mkN hN) rfl ?_)
  refine s_t (x_q (e_assign rfl) rfl ?_)
  refine s_nil ?_
  refine aw_seq (aw_seq (aw_reg ?_))
  refine s_t (x_q (e_assign rfl) rfl ?_)
  refine s_nil ?_
  refine aw_block (aw_loop (α := Nat) (fun j => ⟨tms [(0, .bool a), (5, .int .i64 (n : Int)), (7, ownV ob n), (9, mv), (10, .int .i64 (at_ : Int)), (11, .int .i64 (err : Int)), (12, .string s9), (13, .int .i64 e9), (14, .slice (some ⟨n2, 0, none⟩) N N), (15, .int .i64 (j : Int))], h2.set n2 (some (.cells (bv (List.replicate j 10) ++ zs (N - j)) 5 1 0 false true)), n2 + 1, []⟩) (fun j => j ≤ N) (fun j => N - j) 0 (Nat.zero_le _) (wk_tms (wk_cons rfl (wk_cons rfl (wk_cons rfl (wk_cons rfl (wk_cons rfl (wk_cons rfl (wk_cons rfl (wk_cons rfl (wk_cons rfl (wk_cons rfl wk_nil)))))))))) sub_rfl (Nat.le_refl _)) ?_)
  intro j hj
  by_cases hlj : j < N
  · generalize hh : h2.set n2 _ = h3
    have hg3 : h3.get n2 = some (.cells (bv (List.replicate j 10) ++ zs (N - j)) 5 1 0 false true) := by rw [← hh]; exact Tr.get_set_same _ _ _
    have hbl : Nat.blt (0 + j * 1) (bv (List.replicate j 10) ++ zs (N - j)).length = true := by rw [Nat.blt_eq, List.length_append, bv_len, zs_len, List.length_replicate]; omega
    obtain ⟨q, hq⟩ : ∃ q, N - j = q + 1 := ⟨N - j - 1, by omega⟩
    have hput := put_one (List.replicate j 10) q 10
    rw [List.length_replicate, ← hq] at hput
    refine aw_seq (aw_seq (aw_reg ?_))
    refine s_t (x_q (e_move rfl) rfl ?_)
    refine s_t (x_q (e_move rfl) rfl ?_)
    refine s_t (x_q (e_len rfl (lenSl un34)) rfl ?_)
    refine s_t (x_q (e_bin rfl rfl (dT (by omega))) rfl ?_)
    refine s_nil ?_
    refine (aw_ifT rfl (aw_skip ?_))
    refine aw_seq (aw_block ?_)
    refine aw_reg ?_
    refine s_t (x_q (e_move rfl) rfl ?_)
    refine s_t (x_q (e_move rfl) rfl ?_)
    refine s_t (x_q (e_ia rfl rfl (iaSl un34 sz5 hlj)) rfl ?_)
    refine s_t (x_store rfl rfl (st1v sz5 rfl rfl hg3 rfl hbl) ?_)
    refine s_nil ?_
    refine aw_reg ?_
    refine s_t (x_q (e_move rfl) rfl ?_)
    refine s_t (x_q (e_bin rfl rfl (b_addN _ 1 (by omega))) rfl ?_)
    refine s_t (x_q (e_assign rfl) rfl ?_)
    refine s_nil ?_
    refine ⟨j + 1, by omega, by omega, wk_tms (wk_cons rfl (wk_cons rfl (wk_cons rfl (wk_cons rfl (wk_cons rfl (wk_cons rfl (wk_cons rfl (wk_cons rfl (wk_cons rfl (wk_cons rfl wk_nil)))))))))) ?_ (Nat.le_refl _)⟩
    rw [← hh]
    refine set_sub ?_
    have hput' : (bv (List.replicate j 10) ++ zs (N - j)).set (0 + j * 1) (.int .u8 10) = bv (List.replicate j 10 ++ [10]) ++ zs q := hput
    rw [hput', ← List.replicate_succ', show N - (j + 1) = q by omega]
  have hjN : j = N := by omega
  rw [hjN, Nat.sub_self]
  generalize hh : h2.set n2 _ = h3
  have hg3 : h3.get n2 = some (.cells (bv (List.replicate N 10) ++ zs 0) 5 1 0 false true) := by rw [← hh]; exact Tr.get_set_same _ _ _
  have hs3 : Sub h2 h3 := by rw [← hh]; exact k1.sub _
  have hfr3 : Fr h3 (n2 + 1) := by rw [← hh]; exact k1.new _
  clear hh
  have hrl : (List.replicate N (10 : UInt8)).length = N := List.length_replicate
  have hpA : pParse ⟨(List.replicate N (10 : UInt8)).toArray⟩ = ([], 0, 0) := by
    unfold pParse
    rw [arr_size, hrl, if_neg (by omega)]
    exact pMsg_end (lf_all N) []
  have hpB : pParse ⟨(List.replicate N (10 : UInt8) ++ [10]).toArray⟩ = ([], 0, 3) := by
    unfold pParse
    rw [arr_size, List.length_append, hrl, List.length_singleton, if_pos (by omega)]
  refine aw_seq (aw_seq (aw_reg ?_))
  refine s_t (x_q (e_move rfl) rfl ?_)
  refine s_t (x_q (e_move rfl) rfl ?_)
  refine s_t (x_q (e_len rfl (lenSl un34)) rfl ?_)
  refine s_t (x_q (e_bin rfl rfl (dF (by omega))) rfl ?_)
  refine s_nil ?_
  refine (aw_ifF rfl (aw_exit ?_))
  refine aw_seq (aw_reg ?_)
  refine s_t (x_q (e_move rfl) rfl ?_)
  refine s_t (x_q (e_conv rfl (by kernel_rfl) (cv34 (l := List.replicate N 10) hrl.symm hg3)) rfl ?_)
  refine s_t (x_call rfl rfl rfl (parse_c hfr3) ?_)
  rintro _ h4 n4 ⟨hv, l1, l2, l3⟩
  unfold ParseV at hv
  rw [hpA] at hv
  obtain ⟨mv1, rfl, hmv1⟩ := hv
  refine s_t (x_q (e_move rfl) rfl ?_)
  refine s_t (x_q (e_ext rfl rfl) rfl ?_)
  refine s_t (x_q (e_ext rfl rfl) rfl ?_)
  refine s_t (x_q (e_ext rfl rfl) rfl ?_)
  refine s_t (x_q (e_assign rfl) rfl ?_)
  refine s_t (x_q (e_assign rfl) rfl ?_)
  refine s_t (x_q (e_assign rfl) rfl ?_)
  refine s_nil ?_
  have hg4 : h4.get n2 = some (.cells (bv (List.replicate N 10) ++ zs 0) 5 1 0 false true) := by rw [l3 n2 (Nat.lt_succ_self _)]; exact hg3
  have hs4 : Sub h3 h4 := fun i o e => by rw [l3 i (hfr3 i o e)]; exact e
  refine aw_seq (aw_reg ?_)
  refine s_t (x_q (e_move rfl) rfl ?_)
  refine s_t (x_q (e_conv rfl (by kernel_rfl) (cv34 (l := List.replicate N 10) hrl.symm hg4)) rfl ?_)
  refine s_t (x_q (e_bin rfl rfl (cat (U := [10]) (by rw [hrl, List.length_singleton]; omega))) rfl ?_)
  refine s_t (x_call rfl rfl rfl (parse_c l1) ?_)
  rintro _ h5 n5 ⟨hv, m1, m2, m3⟩
  unfold ParseV at hv
  rw [hpB] at hv
  obtain ⟨mv2, rfl, hmv2⟩ := hv
  refine s_t (x_q (e_move rfl) rfl ?_)
  refine s_t (x_q (e_ext rfl rfl) rfl ?_)
  refine s_t (x_q (e_ext rfl rfl) rfl ?_)
  refine s_t (x_q (e_ext rfl rfl) rfl ?_)
  refine s_t (x_q (e_assign rfl) rfl ?_)
  refine s_t (x_q (e_assign rfl) rfl ?_)
  refine s_t (x_q (e_assign rfl) rfl ?_)
  refine s_nil ?_
  have hs5 : Sub h4 h5 := fun i o e => by rw [m3 i (l1 i o e)]; exact e
  obtain ⟨ba1, ca1, rfl, _⟩ := hmv1
  obtain ⟨ba2, ca2, rfl, _⟩ := hmv2
  refine aw_seq (aw_seq (aw_reg ?_))
  refine s_t (x_q (e_move rfl) rfl ?_)
  refine s_t (x_q (e_bin rfl rfl (nF rfl)) rfl ?_)
  refine s_t (x_q (e_move rfl) rfl ?_)
  refine s_g rfl (x_q (e_move rfl) rfl ?_)
  refine s_g rfl (x_q (e_len rfl (lenSl un22)) rfl ?_)
  refine s_g rfl (x_q (e_bin rfl rfl (nF rfl)) rfl ?_)
  refine s_t (x_q (e_pickF rfl rfl rfl) rfl ?_)
  refine s_t (x_q (e_move rfl) rfl ?_)
  refine s_g rfl (x_q (e_move rfl) rfl ?_)
  refine s_g rfl (x_q (e_bin rfl rfl (nF rfl)) rfl ?_)
  refine s_t (x_q (e_pickF rfl rfl rfl) rfl ?_)
  refine s_t (x_q (e_move rfl) rfl ?_)
  refine s_g rfl (x_q (e_move rfl) rfl ?_)
  refine s_g rfl (x_q (e_bin rfl rfl (nF rfl)) rfl ?_)
  refine s_t (x_q (e_pickF rfl rfl rfl) rfl ?_)
  refine s_t (x_q (e_move rfl) rfl ?_)
  refine s_g rfl (x_q (e_move rfl) rfl ?_)
  refine s_g rfl (x_q (e_len rfl (lenSl un22)) rfl ?_)
  refine s_g rfl (x_q (e_bin rfl rfl (nF rfl)) rfl ?_)
  refine s_t (x_q (e_pickF rfl rfl rfl) rfl ?_)
  refine s_nil ?_
  refine (aw_ifF rfl (aw_skip ?_))
  have hsub : Sub hp h5 := fun i o e => by
    have hi := hf i o e
    exact hs5 _ _ (hs4 _ _ (hs3 _ _ (hs2 _ _ (by rw [g.frame i hi]; exact e))))
  cases a with
  | true =>
    have hn' : n = 61 := hn
    rw [hkn, hn'] at hpt hR
    rw [if_pos (by decide)] at hpt
    rw [hpt] at hR
    cases hR
    rw [hn', prV_no (by rw [rep_okMsg]; rfl)] at hv9
    cases hv9
    obtain ⟨ba3, ca3, rfl, _⟩ := hmv
    refine aw_seq (aw_seq (aw_reg ?_))
    refine s_t (x_q (e_move rfl) rfl ?_)
    refine s_nil ?_
    refine (aw_ifT rfl ?_)
    refine aw_seq (aw_reg ?_)
    refine s_t (x_q (e_move rfl) rfl ?_)
    refine s_t (x_q (e_bin rfl rfl (eT rfl)) rfl ?_)
    refine s_t (x_q (e_move rfl) rfl ?_)
    refine s_g rfl (x_q (e_move rfl) rfl ?_)
    refine s_g rfl (x_q (e_bin rfl rfl (eT rfl)) rfl ?_)
    refine s_t (x_q (e_pickT rfl rfl rfl) rfl ?_)
    refine s_t (x_q (e_move rfl) rfl ?_)
    refine s_g rfl (x_q (e_move rfl) rfl ?_)
    refine s_g rfl (x_q (e_len rfl (lenSl un22)) rfl ?_)
    refine s_g rfl (x_q (e_bin rfl rfl (eT rfl)) rfl ?_)
    refine s_t (x_q (e_pickT rfl rfl rfl) rfl ?_)
    refine s_t (x_q (e_move rfl) rfl ?_)
    refine s_g rfl (x_q (e_move rfl) rfl ?_)
    refine s_g rfl (x_q (e_bin rfl rfl (eT rfl)) rfl ?_)
    refine s_t (x_q (e_pickT rfl rfl rfl) rfl ?_)
    refine s_t (x_q (e_move rfl) rfl ?_)
    refine s_g rfl (x_q (e_move rfl) rfl ?_)
    refine s_g rfl (x_q (e_bin rfl rfl (bin_eq rfl)) rfl ?_)
    refine s_t (x_q (e_pickT rfl rfl rfl) rfl ?_)
    refine s_t (x_q (e_move rfl) rfl ?_)
    refine s_g rfl (x_pure rfl rfl rfl (alive_c _ _) ?_)
    refine s_t (x_q (e_pickT rfl rfl rfl) rfl ?_)
    refine s_t (x_q (e_assign rfl) rfl ?_)
    refine s_nil ?_
    exact aw_ret (fn_ret rfl ⟨rfl, hsub⟩)
  | false =>
    have hn' : n = 60 := hn
    rw [hkn, hn'] at hpt hR
    rw [if_neg (by decide)] at hpt
    rw [hpt] at hR
    cases hR
    have hlen := rep_pr 60
    rw [hn', prV_ok (by rw [rep_okMsg]; rfl)] at hv9
    cases hv9
    rw [hn'] at hmsg ⊢
    have hsz : (⟨(prMsg (List.replicate 60 lin)).toArray⟩ : ByteArray).size = 360 := by rw [arr_size, hlen]
    refine aw_seq (aw_seq (aw_reg ?_))
    refine s_t (x_q (e_move rfl) rfl ?_)
    refine s_nil ?_
    refine (aw_ifF rfl (aw_skip ?_))
    refine aw_seq (aw_reg ?_)
    refine s_t (x_q (e_move rfl) rfl ?_)
    refine s_t (x_q (e_bin rfl rfl (eT rfl)) rfl ?_)
    refine s_t (x_q (e_move rfl) rfl ?_)
    refine s_g rfl (x_q (e_move rfl) rfl ?_)
    refine s_g rfl (x_q (e_move rfl) rfl ?_)
    refine s_g rfl (x_pure rfl rfl rfl (messages_c (r := true) (hmv.mono ((hs3.trans hs4).trans hs5)) (hmsg.mono (((hs2.trans hs3).trans hs4).trans hs5)) (rep_fits 60 (by decide)) (rep_fits 60 (by decide)) (by simp)) ?_)
    refine s_t (x_q (e_pickT rfl rfl rfl) rfl ?_)
    refine s_t (x_q (e_move rfl) rfl ?_)
    refine s_g rfl (x_q (e_move rfl) rfl ?_)
    refine s_g rfl (x_q (e_bin rfl rfl (eT rfl)) rfl ?_)
    refine s_t (x_q (e_pickT rfl rfl rfl) rfl ?_)
    refine s_t (x_q (e_move rfl) rfl ?_)
    refine s_g rfl (x_q (e_move rfl) rfl ?_)
    refine s_g rfl (x_q (e_len rfl (lenStr un9)) rfl ?_)
    refine s_g rfl (x_q (e_move rfl) rfl ?_)
    refine s_g rfl (x_q (e_bin rfl rfl (show _ = some (Value.int .i64 ((360 : Nat) : Int)) from rfl)) rfl ?_)
    refine s_g rfl (x_q (e_bin rfl rfl (eT (by rw [hsz]))) rfl ?_)
    refine s_t (x_q (e_pickT rfl rfl rfl) rfl ?_)
    refine s_t (x_q (e_move rfl) rfl ?_)
    refine s_g rfl (x_pure rfl rfl rfl (alive_c _ _) ?_)
    refine s_t (x_q (e_pickT rfl rfl rfl) rfl ?_)
    refine s_t (x_q (e_assign rfl) rfl ?_)
    refine s_nil ?_
    exact aw_ret (fn_ret rfl ⟨rfl, hsub⟩)
end Go.Proofs.YtkjkoejnicbieaaGreat.AM

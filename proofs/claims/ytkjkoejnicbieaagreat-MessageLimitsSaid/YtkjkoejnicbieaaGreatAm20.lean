/-
  THE ABSTRACT MACHINE, part 20: a region whose order is drawn.
-/
import Derived.Test.YtkjkoejnicbieaaGreatAm19
namespace Go.Proofs.YtkjkoejnicbieaaGreat.AM
open Go Go.RowKit

/-! ### States that are the same -/
def objEq : AObj → AObj → Bool
  | .cells c e s f r h, .cells c' e' s' f' r' h' => listEq (valEq 12) c c' && Nat.beq e e' && Nat.beq s s' && Nat.beq f f' && r == r' && h == h'
  | .map es k, .map es' k' => listEq (fun a b => valEq 12 a.1 b.1 && valEq 12 a.2 b.2) es es' && Nat.beq k k'
  | .iter m k s, .iter m' k' s' => optEq Nat.beq m m' && Nat.beq k k' && listEq (valEq 12) s s'
  | .siter s p, .siter s' p' => listEq byteEq s.data.toList s'.data.toList && Nat.beq p p'
  | _, _ => false

theorem objEq_eq (a b : AObj) (h : objEq a b = true) : a = b := by
  have nb : ∀ a b : Nat, Nat.beq a b = true → a = b := fun a b => Nat.eq_of_beq_eq_true
  cases a <;> cases b <;> simp only [objEq, Bool.and_eq_true, beq_iff_eq, Bool.false_eq_true] at h
  · obtain ⟨⟨⟨⟨⟨h1, h2⟩, h3⟩, h4⟩, h5⟩, h6⟩ := h
    rw [listEq_eq (valEq_eq 12) _ _ h1, nb _ _ h2, nb _ _ h3, nb _ _ h4, h5, h6]
  · rw [listEq_eq (fun a b hh => by simp only [Bool.and_eq_true] at hh; exact Prod.ext (valEq_eq 12 _ _ hh.1) (valEq_eq 12 _ _ hh.2)) _ _ h.1, nb _ _ h.2]
  · rw [optEq_eq nb _ _ h.1.1, nb _ _ h.1.2, listEq_eq (valEq_eq 12) _ _ h.2]
  · have := listEq_eq byteEq_eq _ _ h.1
    rw [nb _ _ h.2]
    congr 1
    apply ByteArray.ext
    exact Array.ext' this

def trEq {α : Type} (eq : α → α → Bool) : Tr α → Tr α → Bool
  | .nil, .nil => true
  | .node l v r, .node l' v' r' => trEq eq l l' && optEq eq v v' && trEq eq r r'
  | _, _ => false

theorem trEq_eq {α : Type} {eq : α → α → Bool} (h : ∀ a b, eq a b = true → a = b) : ∀ (s t : Tr α), trEq eq s t = true → s = t
  | .nil, .nil, _ => rfl
  | .node l v r, .node l' v' r', e => by
    simp only [trEq, Bool.and_eq_true] at e
    rw [trEq_eq h l l' e.1.1, optEq_eq h v v' e.1.2, trEq_eq h r r' e.2]
  | .nil, .node .., e => by simp [trEq] at e
  | .node .., .nil, e => by simp [trEq] at e

def defEq (a b : ADef) : Bool := Nat.beq a.f b.f && listEq (valEq 12) a.l b.l

def stEq (a b : St) : Bool := Nat.beq a.nx b.nx && trEq (valEq 12) a.tm b.tm && trEq objEq a.hp b.hp && listEq defEq a.df b.df

theorem stEq_eq (a b : St) (h : stEq a b = true) : a = b := by
  obtain ⟨t, p, n, d⟩ := a
  obtain ⟨t', p', n', d'⟩ := b
  simp only [stEq, Bool.and_eq_true] at h
  obtain ⟨⟨⟨h1, h2⟩, h3⟩, h4⟩ := h
  have hd : ∀ a b : ADef, defEq a b = true → a = b := fun a b hh => by
    obtain ⟨f, l⟩ := a
    obtain ⟨f', l'⟩ := b
    simp only [defEq, Bool.and_eq_true] at hh
    rw [Nat.eq_of_beq_eq_true hh.1, listEq_eq (valEq_eq 12) _ _ hh.2]
  rw [Nat.eq_of_beq_eq_true h1, trEq_eq (valEq_eq 12) _ _ h2, trEq_eq objEq_eq _ _ h3, listEq_eq hd _ _ h4]

/-- Each state once (as far as the test sees). -/
def once : List St → List St
  | [] => []
  | x :: xs => bif (once xs).any (stEq x) then once xs else x :: once xs

theorem once_mem : ∀ {l : List St} {x : St}, x ∈ l → x ∈ once l := by
  intro l
  induction l with
  | nil => intro x h; cases h
  | cons y ys ih =>
    intro x h
    unfold once
    cases hc : (once ys).any (stEq y) with
    | true =>
      simp only [cond_true]
      rcases List.mem_cons.1 h with rfl | h
      · obtain ⟨z, hz, he⟩ := List.any_eq_true.1 hc
        rw [stEq_eq _ _ he]; exact hz
      · exact ih h
    | false =>
      simp only [cond_false]
      rcases List.mem_cons.1 h with rfl | h
      · exact List.mem_cons_self ..
      · exact List.mem_cons_of_mem _ (ih h)

def onceO : Option (List St) → Option (List St)
  | some [x] => some [x]
  | some l => some (once l)
  | none => none

theorem onceO_mem {o : Option (List St)} {l : List St} (h : onceO o = some l) : ∃ l0, o = some l0 ∧ ∀ x ∈ l0, x ∈ l := by
  unfold onceO at h
  split at h
  · cases h; exact ⟨_, rfl, fun x hx => hx⟩
  · cases h; exact ⟨_, rfl, fun x hx => once_mem hx⟩
  · cases h

/-- One operation that may be taken first. -/
def takeA (P : Program) (G nt : Nat) (ops : Array Oper) (i : Nat) (st : St) : Option St :=
  match ops[i]? with
  | none => none
  | some o => bif dstOk nt o.dst && quietK o.op then
      match wantA ops st.tm o with
      | some true => match qop P (aev G st.tm) st.hp st.nx o.op with
        | some (.same v) => some (stepped st o.dst ⟨some v, st.hp, st.nx⟩)
        | _ => none
      | some false => some (stepped st o.dst ⟨none, st.hp, st.nx⟩)
      | none => none
    else none

def anyA (P : Program) (G nt : Nat) (cf : CF) (ops : Array Oper) : Nat → Array Bool → St → Option (List St)
  | 0, listed, st => match rdy ops listed with
    | [] => some [st]
    | _ :: _ => none
  | n + 1, listed, st => match (rdy ops listed).find? (canFree P ops listed) with
    | some i => match takeA P G nt ops i st with
      | some st' => anyA P G nt cf ops n (listed.setIfInBounds i true) st'
      | none => none
    | none => match (rdy ops listed).find? (canStable ops listed) with
      | some i => match takeA P G nt ops i st with
        | some st' => anyA P G nt cf ops n (listed.setIfInBounds i true) st'
        | none => none
      | none => match rdy ops listed with
        | [] => some [st]
        | i :: is => onceO (andAll (fun i => match opA P G nt cf ops i st with
          | some outs => andAll (anyA P G nt cf ops n (listed.setIfInBounds i true)) outs
          | none => none) (i :: is))

section
variable {P : Program} {G nt : Nat} {cf : CF} {ops : Array Oper} {Q : Exit → Act → World → Prop}

/-- Where one operation that is taken first leaves things. -/
theorem takeA_sound {i : Nat} {st st' : St} (h : takeA P G nt ops i st = some st') {φ : Ren} {a : Act} {w : World} (hs : SRel G nt φ st a w) :
    ∃ o, ops[i]? = some o ∧ quietAt ops i = true ∧ ((freeK P o.op = true → ∃ v, SRel G nt φ st' (a.put o.dst v) w ∧ YieldsIf P ops (fun _ => True) o v a) ∧ (stableK o.op = true → ∃ v, SRel G nt φ st' (a.put o.dst v) w ∧ YieldsIf P ops (Pre w) o v a)) ∧ st'.hp = st.hp := by
  unfold takeA at h
  cases ho : ops[i]? with
  | none => simp [ho] at h
  | some o =>
    simp only [ho] at h
    cases hd : (dstOk nt o.dst && quietK o.op) with
    | false => simp [hd] at h
    | true =>
      simp only [hd, cond_true] at h
      rw [Bool.and_eq_true] at hd
      refine ⟨o, rfl, by simp [quietAt, ho, hd.2], ?_⟩
      have hev : ∀ x u, aev G st.tm x = some u → VRel φ u (a.eval x) := fun x u hu => aev_rel hs.g hs.t x hu
      split at h
      · rename_i hwant
        have hwt := wantA_sound hs.t hwant
        split at h
        · rename_i v hq
          cases h
          have step : ∀ v', VRel φ v v' → SRel G nt φ (stepped st o.dst ⟨some v, st.hp, st.nx⟩) (a.put o.dst v') w := fun v' hv => hs.step (r := ⟨some v, st.hp, st.nx⟩) hd.1 (Ext.refl _ _ _) hs.h hs.b hv
          refine ⟨⟨fun hk => ?_, fun hk => ?_⟩, by cases o.dst <;> rfl⟩
          · obtain ⟨v', h1, h2⟩ := take_free hev hs.h hs.fresh hk hq
            exact ⟨v', step v' h1, .inl ⟨hwt, fun u _ => h2 u⟩⟩
          · obtain ⟨v', h1, h2⟩ := take_stable hev hs.h hs.fresh hk hq
            exact ⟨v', step v' h1, .inl ⟨hwt, fun u hu => h2 u hu⟩⟩
        · cases h
      · rename_i hwant
        have hwt := wantA_sound hs.t hwant
        cases h
        have step : SRel G nt φ (stepped st o.dst ⟨none, st.hp, st.nx⟩) (a.put o.dst undef) w := hs.step (r := ⟨none, st.hp, st.nx⟩) hd.1 (Ext.refl _ _ _) hs.h hs.b (undef_rel _)
        exact ⟨⟨fun _ => ⟨undef, step, .inr ⟨hwt, rfl⟩⟩, fun _ => ⟨undef, step, .inr ⟨hwt, rfl⟩⟩⟩, by cases o.dst <;> rfl⟩
      · cases h

theorem anyA_sound (hcf : CSound P G cf) (hsel : noSel ops = true) (hQ : ∀ c a a' w, Q (.panic c) a' w → Q (.panic c) a w) : ∀ (n : Nat) (listed : Array Bool) {st : St} {outs : List St}, anyA P G nt cf ops n listed st = some outs → ∀ {φ : Ren} {a : Act} {w : World}, SRel G nt φ st a w →
    (∀ r ∈ outs, ∀ φ' a' w', Ext φ st.hp w φ' r.hp w' → SRel G nt φ' r a' w' → Q .normal a' w') → wpAnyT P ops Q n listed a w := by
  intro n
  induction n with
  | zero =>
    intro listed st outs h φ a w hs hK
    simp only [anyA] at h
    split at h
    · rename_i hr
      cases h
      exact ⟨by rw [← rdy_eq]; exact hr, hK _ (List.mem_singleton.2 rfl) φ a w (Ext.refl _ _ _) hs⟩
    · cases h
  | succ n ih =>
    intro listed st outs h φ a w hs hK
    have take : ∀ (i : Nat) (st' : St) (R : World → World → Prop), i ∈ rdy ops listed → takeA P G nt ops i st = some st' → anyA P G nt cf ops n (listed.setIfInBounds i true) st' = some outs →
        (∀ u v w, R u v → R v w → R u w) → (∀ u, R u u) →
        (∀ o, ops[i]? = some o → ∃ v, SRel G nt φ st' (a.put o.dst v) w ∧ YieldsIf P ops (R w) o v a ∧ (∀ j ∈ waiting ops i, listed.getD j false = false) ∧ (∀ j oj, ops[j]? = some oj → j ≠ i → listed.getD j true = false → j ∉ waiting ops i → o.apart ops oj = true ∧ ∀ u u', (quietAt ops j = true → Pre u u') → R u u')) →
        wpAnyT P ops Q (n + 1) listed a w := by
      intro i st' R hi ht hrest hR hR0 hy
      obtain ⟨o, ho, hq, _, hhp⟩ := takeA_sound ht hs
      obtain ⟨v, h1, h2, h4, h3⟩ := hy o ho
      refine wpAnyT_first (R := R) ho (noSel_spec hsel) (fun c a w => hQ c a _ w) hR (waiting_ok ops i) n listed a w w h4 h3 (by rw [← rdy_eq]; exact hi) h2 (hR0 w) hq ?_
      exact ih _ hrest h1 fun r hr φ' a' w' hx hs' => hK r hr φ' a' w' (by rw [hhp] at hx; exact hx) hs'
    simp only [anyA] at h
    split at h
    · rename_i i hf
      split at h
      · rename_i st' ht
        have hc := List.find?_some hf
        have hmem := List.mem_of_find?_eq_some hf
        simp only [canFree, Bool.and_eq_true] at hc
        refine take i st' (fun _ _ => True) hmem ht h (fun _ _ _ _ _ => trivial) (fun _ => trivial) fun o ho => ?_
        obtain ⟨o', ho', _, ⟨hfree, _⟩, _⟩ := takeA_sound ht hs
        rw [ho] at ho'
        cases ho'
        rw [ho] at hc
        obtain ⟨v, h1, h2⟩ := hfree hc.1
        obtain ⟨k1, k2⟩ := apt_spec ho hc.2
        exact ⟨v, h1, h2, k1, fun j oj hj hne hun hno => ⟨(k2 j oj hj hne hun hno).1, fun _ _ _ => trivial⟩⟩
      · cases h
    · split at h
      · rename_i i hf
        split at h
        · rename_i st' ht
          have hc := List.find?_some hf
          have hmem := List.mem_of_find?_eq_some hf
          simp only [canStable, Bool.and_eq_true] at hc
          refine take i st' Pre hmem ht h (fun _ _ _ => Pre.trans) Pre.refl fun o ho => ?_
          obtain ⟨o', ho', _, ⟨_, hst⟩, _⟩ := takeA_sound ht hs
          rw [ho] at ho'
          cases ho'
          rw [ho] at hc
          obtain ⟨v, h1, h2⟩ := hst hc.1
          obtain ⟨k1, k2⟩ := apt_spec ho hc.2
          exact ⟨v, h1, h2, k1, fun j oj hj hne hun hno => ⟨(k2 j oj hj hne hun hno).1, fun u u' hp => hp ((k2 j oj hj hne hun hno).2 rfl)⟩⟩
        · cases h
      · split at h
        · rename_i hr
          cases h
          have hr' : Region.ready .any ops listed = [] := by rw [← rdy_eq]; exact hr
          exact ⟨fun _ => hK _ (List.mem_singleton.2 rfl) φ a w (Ext.refl _ _ _) hs, by rw [hr']; simp⟩
        · rename_i i0 is hr
          have hr' : Region.ready .any ops listed = i0 :: is := by rw [← rdy_eq]; exact hr
          refine ⟨fun h0 => (by rw [hr'] at h0; cases h0), fun i hi => ?_⟩
          rw [hr'] at hi
          obtain ⟨l0, h0, hm0⟩ := onceO_mem h
          obtain ⟨zs, h1, h2'⟩ := andAll_mem h0 i hi
          have h2 : ∀ z ∈ zs, z ∈ outs := fun z hz => hm0 z (h2' z hz)
          split at h1
          · rename_i os hop
            refine opA_sound hcf hop hs fun r hr φ' a' w' hx hs' hpre => ⟨hpre, ?_⟩
            obtain ⟨ys, h3, h4⟩ := andAll_mem h1 r hr
            exact ih _ h3 hs' fun r2 hr2 φ2 a2 w2 hx2 hs2 => hK r2 (h2 _ (h4 _ hr2)) φ2 a2 w2 (hx.trans hx2) hs2
          · cases h1
end

theorem SRel.drew {G nt : Nat} {φ : Ren} {st : St} {a : Act} {w : World} (h : SRel G nt φ st a w) : SRel G nt φ st a { w with drawn := w.drawn + 1 } :=
  ⟨h.g, h.t, h.h.drew, h.b, h.n, h.d⟩

/-- A region. -/
def regA (P : Program) (G nt : Nat) (cf : CF) (ops : Array Oper) (draw : Bool) (st : St) : Option (List St) :=
  bif draw then bif noSel ops then anyA P G nt cf ops ops.size (Array.replicate ops.size false) st else none
  else seqA P G nt cf ops ops.toList st

theorem regA_sound {P : Program} {G nt : Nat} {cf : CF} (hm : P.follows .mixedOrders = true) (hcf : CSound P G cf) {id : Nat} {ops : Array Oper} {draw : Bool} {st : St} {outs : List St} (h : regA P G nt cf ops draw st = some outs) {φ : Ren} {a : Act} {w : World} (hs : SRel G nt φ st a w)
    {Q : Exit → Act → World → Prop} (hQ : ∀ c a a' w, Q (.panic c) a' w → Q (.panic c) a w) (hK : ∀ r ∈ outs, ∀ φ' a' w', Ext φ st.hp w φ' r.hp w' → SRel G nt φ' r a' w' → Q .normal a' w') : (Code.region id ops draw).wp P Q a w := by
  cases draw with
  | false => exact wp_region (seqA_all hcf h hs hK)
  | true =>
    simp only [regA, cond_true] at h
    cases hn : noSel ops with
    | false => simp [hn] at h
    | true =>
      simp only [hn, cond_true] at h
      refine wp_region_any hm (wpAny_of_T _ _ _ _ (anyA_sound hcf hn hQ _ _ h hs.drew fun r hr φ' a' w' hx hs' => hK r hr φ' a' w' ?_ hs'))
      exact (Ext.drew φ st.hp w).trans hx
end Go.Proofs.YtkjkoejnicbieaaGreat.AM

/-
  Arguments opened: rows that a call is handed, as abstract memory that nobody writes.
-/
import Derived.Test.YtkjkoejnicbieaaGreatAmD1
import Derived.SizedLaws
namespace Go.Proofs.YtkjkoejnicbieaaGreat.AM
open Go Go.RowKit

/-- Memory that is only read. -/
structure Inv (W : World) (φ : Ren) (hp : Tr AObj) (nx : Nat) : Prop where
  rel : WRel φ hp W
  fr : Fr hp nx
  dom : ∀ i, φ i ≠ none → i < nx
  ro : ∀ i o, hp.get i = some o → o.ro = true

/-- More of it. -/
structure Up (φ : Ren) (hp : Tr AObj) (nx : Nat) (φ' : Ren) (hp' : Tr AObj) (nx' : Nat) : Prop where
  sub : Sub hp hp'
  le : Ren.le φ φ'
  n : nx ≤ nx'

theorem Up.refl (φ : Ren) (hp : Tr AObj) (nx : Nat) : Up φ hp nx φ hp nx := ⟨Sub.refl _, Ren.le_refl _, Nat.le_refl _⟩
theorem Up.trans {φ ψ χ : Ren} {h1 h2 h3 : Tr AObj} {n1 n2 n3 : Nat} (a : Up φ h1 n1 ψ h2 n2) (b : Up ψ h2 n2 χ h3 n3) : Up φ h1 n1 χ h3 n3 := ⟨a.sub.trans b.sub, Ren.le_trans a.le b.le, Nat.le_trans a.n b.n⟩

theorem Inv.empty (W : World) : Inv W (fun _ => none) .nil 0 :=
  ⟨⟨fun i o l h => by simp [Tr.get_nil] at h, fun i j oi oj li lj _ h => by simp [Tr.get_nil] at h⟩, fun i o h => by simp [Tr.get_nil] at h, fun i h => absurd rfl h, fun i o h => by simp [Tr.get_nil] at h⟩

/-- A row more. -/
theorem Inv.grow {W : World} {φ : Ren} {hp : Tr AObj} {nx : Nat} (I : Inv W φ hp nx) {blk off fin sz : Nat} {c' : Array Value} {e : TypeId} {fr : Nat × Nat} (hb : W.heap[blk]? = some (.cells c' e fr)) {cs : List Value} (hf : off + cs.length ≤ fin) (hfin : fin ≤ c'.size)
    (hv : ∀ i v, cs[i]? = some v → ∃ v', c'[off + i]? = some v' ∧ VRel φ v v') :
    Inv W (φ.put nx ⟨blk, off, fin, sz⟩) (hp.set nx (some (.cells cs e sz fr.2 true false))) (nx + 1) ∧ Up φ hp nx (φ.put nx ⟨blk, off, fin, sz⟩) (hp.set nx (some (.cells cs e sz fr.2 true false))) (nx + 1) := by
  have hn : φ nx = none := by
    cases h : φ nx with
    | none => rfl
    | some l => have := I.dom nx (by rw [h]; simp); omega
  have hle := Ren.le_put (l := ⟨blk, off, fin, sz⟩) hn
  have hro : ∀ i o, (hp.set nx (some (.cells cs e sz fr.2 true false))).get i = some o → o.ro = true := by
    intro i o h
    rw [Tr.get_set] at h
    split at h
    · cases h; rfl
    · exact I.ro i o h
  refine ⟨⟨⟨fun i o l h hl => ?_, fun i j oi oj li lj _ h1 h2 _ _ _ => ⟨hro i oi h1, hro j oj h2⟩⟩, I.fr.new _, fun i hi => ?_, hro⟩, ⟨I.fr.sub _, hle, Nat.le_succ _⟩⟩
  · by_cases q : i = nx
    · subst q
      rw [Tr.get_set_same] at h
      rw [Ren.put_same] at hl
      cases h; cases hl
      refine ⟨c', fr, hb, rfl, (by intro h; cases h), hfin, hf, fun j v hj => ?_, fun _ => by show fr.2 ≤ off + fr.2; omega⟩
      obtain ⟨v', g1, g2⟩ := hv j v hj
      exact ⟨v', g1, g2.mono hle⟩
    · rw [Tr.get_set_ne _ _ q] at h
      rw [Ren.put_ne _ _ q] at hl
      exact (I.rel.obj i o l h hl).keep hle rfl (MapsStep.of_same fun _ _ _ hk => hk)
  · by_cases q : i = nx
    · omega
    · rw [Ren.put_ne _ _ q] at hi; have := I.dom i hi; omega

theorem row_fold {W : World} {sz off : Nat} {c' : Array Value} {A : Nat → Tr AObj → List Value → Prop} (mono : ∀ i hp hp' us, A i hp us → Sub hp hp' → A i hp' us) : ∀ (n : Nat)
    (_ : ∀ i, i < n → ∀ φ hp nx, Inv W φ hp nx → ∃ (φ' : Ren) (hp' : Tr AObj) (nx' : Nat) (us : List Value), Inv W φ' hp' nx' ∧ Up φ hp nx φ' hp' nx' ∧ us.length = sz ∧ (∀ j v, us[j]? = some v → ∃ v', c'[off + i * sz + j]? = some v' ∧ VRel φ' v v') ∧ A i hp' us),
    ∀ φ hp nx, Inv W φ hp nx → ∃ (φ' : Ren) (hp' : Tr AObj) (nx' : Nat) (cs : List Value), Inv W φ' hp' nx' ∧ Up φ hp nx φ' hp' nx' ∧ cs.length = n * sz ∧ (∀ j v, cs[j]? = some v → ∃ v', c'[off + j]? = some v' ∧ VRel φ' v v') ∧ ∀ i, i < n → A i hp' ((cs.drop (i * sz)).take sz) := by
  intro n
  induction n with
  | zero => intro _ φ hp nx I; exact ⟨φ, hp, nx, [], I, Up.refl _ _ _, by simp, fun j v h => by simp at h, fun i hi => absurd hi (Nat.not_lt_zero i)⟩
  | succ n ih =>
    intro el φ hp nx I
    obtain ⟨φ1, h1, n1, cs, I1, U1, l1, v1, a1⟩ := ih (fun i hi => el i (by omega)) φ hp nx I
    obtain ⟨φ2, h2, n2, us, I2, U2, l2, v2, a2⟩ := el n (Nat.lt_succ_self n) φ1 h1 n1 I1
    refine ⟨φ2, h2, n2, cs ++ us, I2, U1.trans U2, by rw [List.length_append, l1, l2, Nat.add_mul, Nat.one_mul], fun j v hj => ?_, fun i hi => ?_⟩
    · by_cases q : j < cs.length
      · rw [List.getElem?_append_left q] at hj
        obtain ⟨v', g1, g2⟩ := v1 j v hj
        exact ⟨v', g1, g2.mono U2.le⟩
      · rw [List.getElem?_append_right (by omega)] at hj
        obtain ⟨v', g1, g2⟩ := v2 _ v hj
        refine ⟨v', ?_, g2⟩
        rwa [show off + n * sz + (j - cs.length) = off + j by omega] at g1
    · by_cases q : i < n
      · have hle : i * sz + sz ≤ n * sz := by
          have : (i + 1) * sz ≤ n * sz := Nat.mul_le_mul_right _ (by omega)
          rwa [Nat.add_mul, Nat.one_mul] at this
        rw [List.drop_append_of_le_length (by omega), List.take_append_of_le_length (by rw [List.length_drop]; omega)]
        exact mono i _ _ _ (a1 i q) U2.sub
      · obtain rfl : i = n := by omega
        rw [← l1, List.drop_left, List.take_of_length_le (by omega)]
        exact a2

theorem mapM_some {α β : Type} {f : α → Option β} : ∀ {l : List α} {r : List β}, l.mapM f = some r → r.length = l.length ∧ ∀ (j : Nat) (x : α), l[j]? = some x → ∃ y, f x = some y ∧ r[j]? = some y := by
  intro l
  induction l with
  | nil => intro r h; simp at h; subst h; exact ⟨rfl, fun j x h => by simp at h⟩
  | cons a l ih =>
    intro r h
    rw [List.mapM_cons] at h
    cases ha : f a with
    | none => rw [ha] at h; simp at h
    | some b =>
      rw [ha] at h
      cases hl : l.mapM f with
      | none => rw [hl] at h; simp at h
      | some bs =>
        rw [hl] at h
        simp at h
        subst h
        obtain ⟨k1, k2⟩ := ih hl
        refine ⟨by simp [k1], fun j x hj => ?_⟩
        cases j with
        | zero => simp at hj; subst hj; exact ⟨b, ha, rfl⟩
        | succ j => simp at hj; simpa using k2 j x hj

theorem cells_some {w : World} {base : Nat} {a : Addr} {n : Nat} {cs : List Value} (h : w.cells? base a n = some cs) : cs.length = n ∧ ∀ j, j < n → ∃ v, cs[j]? = some v ∧ w.cell? (a.add j) = some v := by
  unfold World.cells? at h
  split at h
  · obtain ⟨h1, h2⟩ := mapM_some h
    rw [List.length_range] at h1
    refine ⟨h1, fun j hj => ?_⟩
    obtain ⟨y, g1, g2⟩ := h2 j j (by rw [List.getElem?_range hj])
    exact ⟨y, g2, g1⟩
  · cases h

theorem cell_some {w : World} {b o : Nat} {v : Value} (h : ∃ a : Addr, a.block = b ∧ a.off = o ∧ w.cell? a = some v) : ∃ c e fr, w.heap[b]? = some (.cells c e fr) ∧ c[o]? = some v := by
  obtain ⟨a, rfl, rfl, h⟩ := h
  unfold World.cell? at h
  split at h
  · rename_i c e fr hb
    split at h
    · cases h
    · exact ⟨c, e, fr, hb, h⟩
  · cases h

section
variable {H : Type} (enc : TypeId × Value → H) (P : Program) (W : World)

/-- What a type's reading opens to. -/
def Opens (t sz : Nat) {α : Type} (Rd : Tr AObj → List Value → α → Prop) (Ok : α → Prop) : Prop :=
  ∀ (fuel : Nat) (cs : List Value) (d : DataW H) (ps : List MemPlace), DataW.trod enc P W 0 (fun _ => true) true fuel t cs = some (d, ps) → (∀ n ∈ d.weights P t, n ≤ reachBytes) →
    ∃ x : α, Ok x ∧ cs.length = sz ∧ ∀ φ hp nx, Inv W φ hp nx → ∃ (φ' : Ren) (hp' : Tr AObj) (nx' : Nat) (us : List Value), Inv W φ' hp' nx' ∧ Up φ hp nx φ' hp' nx' ∧ LRel φ' us cs ∧ Rd hp' us x

/-- A row, as it is read. -/
def RdRow {α : Type} (sz : Nat) (d0 : α) (Rd : Tr AObj → List Value → α → Prop) (hp : Tr AObj) (us : List Value) (l : List α) : Prop :=
  ∃ ba cap, us = [.slice ba l.length cap] ∧ (0 < l.length → ∃ b c e fz ro hd, ba = some ⟨b, 0, none⟩ ∧ hp.get b = some (.cells c e sz fz ro hd) ∧ ∀ i, i < l.length → Rd hp ((c.drop (i * sz)).take sz) (l.getD i d0))

variable {enc P W}

theorem opens_string {t : TypeId} (ht : P.underlying t = some .string) : Opens enc P W t 1 (fun _ us (s : ByteArray) => us = [.string s]) (fun s => s.size ≤ reachBytes) := by
  intro fuel cs d ps h hw
  obtain ⟨s, rfl, hx, _⟩ := DataW.trod_string ht h
  cases hx
  refine ⟨s, ?_, rfl, fun φ hp nx I => ⟨φ, hp, nx, [.string s], I, Up.refl _ _ _, .cons (.string s) .nil, rfl⟩⟩
  have := hw _ (by simp only [DataW.weights]; exact List.mem_singleton.2 rfl)
  rwa [Array.length_toList] at this

theorem weightsAll_mem {e : TypeId} {ds : List (DataW H)} {d : DataW H} (h : d ∈ ds) : ∀ n ∈ d.weights P e, n ∈ DataW.weightsAll P e ds := by
  induction ds with
  | nil => cases h
  | cons x ds ih =>
    intro n hn
    simp only [DataW.weightsAll, List.mem_append]
    rcases List.mem_cons.1 h with rfl | h
    · exact .inl hn
    · exact .inr (ih h n hn)

theorem lrel_get {φ : Ren} : ∀ {us cs : List Value}, LRel φ us cs → ∀ (j : Nat) (v : Value), us[j]? = some v → ∃ v', cs[j]? = some v' ∧ VRel φ v v' := by
  intro us
  induction us with
  | nil => intro cs _ j v h; simp at h
  | cons u us ih =>
    intro cs h j v hj
    cases h with
    | cons h1 h2 =>
      cases j with
      | zero => simp at hj; subst hj; exact ⟨_, rfl, h1⟩
      | succ j => simp at hj; simpa using ih h2 j v hj
theorem lrel_len {φ : Ren} : ∀ {us cs : List Value}, LRel φ us cs → us.length = cs.length := by
  intro us
  induction us with
  | nil => intro cs h; cases h; rfl
  | cons u us ih => intro cs h; cases h with | cons h1 h2 => simp [ih h2]

theorem opens_slice {t e sz : Nat} {α : Type} {d0 : α} {Rd : Tr AObj → List Value → α → Prop} {Ok : α → Prop} (ht : P.underlying t = some (.slice e)) (hc : P.cellsOf e = sz) (h0 : 0 < sz) (hby : 0 < P.bytesOf e) (mono : ∀ x hp hp' us, Rd hp us x → Sub hp hp' → Rd hp' us x)
    (E : Opens enc P W e sz Rd Ok) : Opens enc P W t 1 (RdRow sz d0 Rd) (fun l => l.length ≤ reachBytes ∧ ∀ x ∈ l, Ok x) := by
  intro fuel cs d ps h hw
  rcases DataW.trod_slice ht h with ⟨rfl, hx⟩ | ⟨a, len, cap, elems, rest, n, _, rfl, hx, _, hl, hm, hlen, hel, hsp, _⟩
  · cases hx
    exact ⟨[], ⟨Nat.zero_le _, fun x hx => by cases hx⟩, rfl, fun φ hp nx I => ⟨φ, hp, nx, [.slice none 0 0], I, Up.refl _ _ _, .cons (.snil 0 0) .nil, none, 0, rfl, fun h => absurd h (Nat.lt_irrefl _)⟩⟩
  · simp only [Prod.mk.injEq] at hx
    obtain ⟨rfl, _⟩ := hx
    simp only [DataW.weights, ht] at hw
    have hcap : cap ≠ OPEN := by
      have : maxLen = 9223372036854775807 := rfl
      have : OPEN = 9223372036854775808 := rfl
      omega
    obtain ⟨hrl, hr⟩ := hsp rfl
    have hlw : (elems.length + rest.length) * P.bytesOf e ≤ reachBytes := by
      have := hw _ (List.mem_cons_self ..)
      simpa using this
    have hlenr : len ≤ reachBytes := by
      have : (elems.length + rest.length) * 1 ≤ (elems.length + rest.length) * P.bytesOf e := Nat.mul_le_mul_left _ hby
      omega
    -- the cells of an element
    have elc : ∀ i, i < cap → ∃ ci y, W.cells? 0 (a.add (i * sz)) sz = some ci ∧ DataW.trod enc P W 0 (fun _ => true) true n e ci = some y ∧ (i < len → elems[i]? = some y) := by
      intro i hi
      by_cases q : i < len
      · have := hel i q
        rw [List.getElem?_eq_getElem (by omega), hc, Option.bind_eq_some_iff] at this
        obtain ⟨ci, g1, g2⟩ := this
        exact ⟨ci, _, g1, g2, fun _ => List.getElem?_eq_getElem (by omega)⟩
      · have := hr (i - len) (by omega)
        rw [List.getElem?_eq_getElem (by omega), hc, show len + (i - len) = i by omega, Option.bind_eq_some_iff] at this
        obtain ⟨ci, g1, g2⟩ := this
        exact ⟨ci, _, g1, g2, fun h => absurd h q⟩
    have elx : ∀ i, i < len → ∃ x : α, Ok x ∧ ∃ ci, W.cells? 0 (a.add (i * sz)) sz = some ci ∧ ci.length = sz ∧ ∀ φ hp nx, Inv W φ hp nx → ∃ (φ' : Ren) (hp' : Tr AObj) (nx' : Nat) (us : List Value), Inv W φ' hp' nx' ∧ Up φ hp nx φ' hp' nx' ∧ LRel φ' us ci ∧ Rd hp' us x := by
      intro i hi
      obtain ⟨ci, ⟨d1, p1⟩, g1, g2, g3⟩ := elc i (by omega)
      have hmem : d1 ∈ elems.map (·.1) := List.mem_map.2 ⟨_, List.mem_of_getElem? (g3 hi), rfl⟩
      obtain ⟨x, k1, k2, k3⟩ := E n ci d1 p1 g2 fun m hm => hw m (List.mem_cons_of_mem _ (List.mem_append.2 (.inl (weightsAll_mem hmem m hm))))
      exact ⟨x, k1, ci, g1, k2, k3⟩
    let X : Nat → α := fun i => open Classical in if hi : i < len then Classical.choose (elx i hi) else d0
    have hX : ∀ i, i < len → Ok (X i) ∧ ∃ ci, W.cells? 0 (a.add (i * sz)) sz = some ci ∧ ci.length = sz ∧ ∀ φ hp nx, Inv W φ hp nx → ∃ (φ' : Ren) (hp' : Tr AObj) (nx' : Nat) (us : List Value), Inv W φ' hp' nx' ∧ Up φ hp nx φ' hp' nx' ∧ LRel φ' us ci ∧ Rd hp' us (X i) := by
      intro i hi
      have := Classical.choose_spec (elx i hi)
      show Ok (open Classical in if hi : i < len then Classical.choose (elx i hi) else d0) ∧ _
      simp only [X, dif_pos hi]
      exact this
    have hXl : ((List.range len).map X).length = len := by simp
    refine ⟨(List.range len).map X, ⟨by rw [hXl]; exact hlenr, fun x hx => ?_⟩, rfl, fun φ hp nx I => ?_⟩
    · obtain ⟨i, hi, rfl⟩ := List.mem_map.1 hx
      exact (hX i (List.mem_range.1 hi)).1
    by_cases hc0 : cap = 0
    · have hl0 : len = 0 := by omega
      subst hc0; subst hl0
      exact ⟨φ, hp, nx, [.slice (some ⟨0, 0, none⟩) 0 0], I, Up.refl _ _ _, .cons (.szero _ _) .nil, some ⟨0, 0, none⟩, 0, rfl, fun h => absurd h (Nat.lt_irrefl _)⟩
    · -- the block
      obtain ⟨c0, _, hc0', _, _⟩ := elc 0 (by omega)
      obtain ⟨_, hcell0⟩ := cells_some hc0'
      obtain ⟨v0, _, hv0⟩ := hcell0 0 h0
      rw [Nat.zero_mul, Addr.add_zero', Addr.add_zero'] at hv0
      obtain ⟨ab, ao, asp⟩ := a
      have hspot : asp = none := by
        cases hs : asp with
        | none => rfl
        | some s =>
          exfalso
          subst hs
          unfold World.cell? at hv0
          split at hv0
          · simp at hv0
          · cases hv0
      subst hspot
      obtain ⟨c', e', fr, hb, hat0⟩ := cell_some (b := ab) (o := ao) ⟨_, rfl, rfl, hv0⟩
      have hsz0 : ao < c'.size := by
        rcases Nat.lt_or_ge ao c'.size with q | q
        · exact q
        · rw [Array.getElem?_eq_none q] at hat0; cases hat0
      have fold := row_fold (W := W) (sz := sz) (off := ao) (c' := c') (A := fun i hp us => Rd hp us (X i)) (fun i hp hp' us h hs => mono _ hp hp' us h hs) len (fun i hi φ hp nx I => by
        obtain ⟨_, ci, g1, g2, g3⟩ := hX i hi
        obtain ⟨φ', hp', nx', us, I', U', L', R'⟩ := g3 φ hp nx I
        refine ⟨φ', hp', nx', us, I', U', (lrel_len L').trans g2, fun j v hj => ?_, R'⟩
        obtain ⟨v', k1, k2⟩ := lrel_get L' j v hj
        have hj' : j < sz := by rw [← g2]; exact (List.getElem?_eq_some_iff.1 k1).1
        obtain ⟨v2, m1, m2⟩ := (cells_some g1).2 j hj'
        rw [k1] at m1
        cases m1
        rw [Addr.add_lit, Addr.add_lit] at m2
        obtain ⟨c2, e2, fr2, m3, m4⟩ := cell_some (b := ab) (o := ao + i * sz + j) ⟨_, rfl, rfl, m2⟩
        rw [hb] at m3
        cases m3
        exact ⟨v', m4, k2⟩)
      obtain ⟨φ1, h1, n1, us, I1, U1, l1, v1, a1⟩ := fold φ hp nx I
      have hfin : ao + len * sz ≤ c'.size := by
        rcases Nat.eq_zero_or_pos (len * sz) with q | q
        · omega
        · obtain ⟨v, hv⟩ : ∃ v, us[len * sz - 1]? = some v := ⟨_, List.getElem?_eq_getElem (by omega)⟩
          obtain ⟨v', g1, _⟩ := v1 _ v hv
          rcases Nat.lt_or_ge (ao + (len * sz - 1)) c'.size with q2 | q2
          · omega
          · rw [Array.getElem?_eq_none q2] at g1; cases g1
      obtain ⟨I2, U2⟩ := I1.grow (sz := sz) (fin := ao + len * sz) hb (cs := us) (by omega) hfin v1
      refine ⟨_, _, _, [.slice (some ⟨n1, 0, none⟩) len cap], I2, U1.trans U2, .cons ?_ .nil, some ⟨n1, 0, none⟩, cap, by rw [hXl], fun _ => ⟨n1, us, e', fr.2, true, false, rfl, Tr.get_set_same _ _ _, fun i hi => ?_⟩⟩
      · have := VRel.slice (φ := φ1.put n1 ⟨ab, ao, ao + len * sz, sz⟩) (b := n1) (o := 0) (len := len) (cap := cap) (Ren.put_same _ _ _) hcap
        exact this
      · rw [hXl] at hi
        have hg : ((List.range len).map X).getD i d0 = X i := by
          rw [List.getD_eq_getElem?_getD, List.getElem?_map, List.getElem?_range hi]; rfl
        rw [hg]
        exact mono _ _ _ _ (a1 i hi) U2.sub
end
end Go.Proofs.YtkjkoejnicbieaaGreat.AM

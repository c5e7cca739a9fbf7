/-
  THE ABSTRACT MACHINE AT SYMBOLIC STATES, part 5: a run out of a small memory is a call in every memory that holds it, under whatever numbers.
-/
import Derived.Test.YtkjkoejnicbieaaGreatAmW4
namespace Go.Proofs.YtkjkoejnicbieaaGreat.AM
open Go Go.RowKit

def renA (ρ : Nat → Nat) (a : Addr) : Addr := ⟨ρ a.block, a.off, a.spot⟩

def renV (ρ : Nat → Nat) : Nat → Value → Value
  | _, .pointer (some a) => .pointer (some (renA ρ a))
  | _, .slice (some a) n c => .slice (some (renA ρ a)) n c
  | _, .map (some r) => .map (some (ρ r))
  | n + 1, .agg cs => .agg (cs.toList.map (renV ρ n)).toArray
  | n + 1, .tuple cs => .tuple (cs.toList.map (renV ρ n)).toArray
  | n + 1, .iface t v => .iface t (renV ρ n v)
  | n + 1, .func (.func f) as cs => .func (.func f) (as.toList.map (renV ρ n)).toArray (cs.toList.map (renV ρ n)).toArray
  | _, v => v

/-- Not deeper than that; its numbers below a bound. -/
def okV (b : Nat) : Nat → Value → Bool
  | _, .pointer (some a) => Nat.blt a.block b
  | _, .slice (some a) _ _ => Nat.blt a.block b
  | _, .map (some r) => Nat.blt r b
  | n + 1, .agg cs => cs.toList.all (okV b n)
  | n + 1, .tuple cs => cs.toList.all (okV b n)
  | n + 1, .iface _ v => okV b n v
  | n + 1, .func (.func _) as cs => as.toList.all (okV b n) && cs.toList.all (okV b n)
  | _, .bool _ | _, .int _ _ | _, .float _ _ | _, .string _ | _, .pointer none | _, .slice none _ _ | _, .map none | _, .nilFunc | _, .nilIface => true
  | _, _ => false

theorem arel_map {ψ : Ren} {g : Value → Value} {as bs : Array Value} (h1 : as.size = bs.size) (h : ∀ (i : Nat) (h : i < as.size) (h' : i < bs.size), VRel ψ (g as[i]) bs[i]) :
    (as.toList.map g).toArray.size = bs.size ∧ ∀ i (h : i < (as.toList.map g).toArray.size) (h' : i < bs.size), VRel ψ (as.toList.map g).toArray[i] bs[i] := by
  refine ⟨by simp [h1], fun i hi hi' => ?_⟩
  have hlt : i < as.size := by omega
  have : (as.toList.map g).toArray[i] = g as[i] := by simp
  rw [this]
  exact h i hlt hi'

theorem VRel.ren {φ ψ : Ren} {ρ : Nat → Nat} {bd : Nat} (hρ : ∀ i l, φ i = some l → ψ (ρ i) = some l) : ∀ (n : Nat) {v v' : Value}, okV bd n v = true → VRel φ v v' → VRel ψ (renV ρ n v) v' := by
  intro n
  induction n with
  | zero =>
    intro v v' hok h
    cases h with
    | bool b => exact .bool b
    | int k n => exact .int k n
    | float k n => exact .float k n
    | string s => exact .string s
    | pnil => exact .pnil
    | ptr h => exact .ptr (hρ _ _ h)
    | snil n c => exact .snil n c
    | slice h hc => exact .slice (hρ _ _ h) hc
    | sopen h a b c d => exact .sopen (hρ _ _ h) a b c d
    | szero a b => exact .szero _ _
    | mnil => exact .mnil
    | map h => exact .map (hρ _ _ h)
    | func f h1 h2 h3 h4 => simp [okV] at hok
    | nilFunc => exact .nilFunc
    | iface t h => simp [okV] at hok
    | nilIface => exact .nilIface
    | agg h1 h2 => simp [okV] at hok
    | tuple h1 h2 => simp [okV] at hok
  | succ n ih =>
    intro v v' hok h
    have el : ∀ {as : Array Value}, as.toList.all (okV bd n) = true → ∀ i (h : i < as.size), okV bd n as[i] = true := fun ha i hi => List.all_eq_true.1 ha _ (by simp)
    cases h with
    | bool b => exact .bool b
    | int k n => exact .int k n
    | float k n => exact .float k n
    | string s => exact .string s
    | pnil => exact .pnil
    | ptr h => exact .ptr (hρ _ _ h)
    | snil n c => exact .snil n c
    | slice h hc => exact .slice (hρ _ _ h) hc
    | sopen h a b c d => exact .sopen (hρ _ _ h) a b c d
    | szero a b => exact .szero _ _
    | mnil => exact .mnil
    | map h => exact .map (hρ _ _ h)
    | func f h1 h2 h3 h4 =>
      simp only [okV, Bool.and_eq_true] at hok
      have a1 := arel_map (ψ := ψ) (g := renV ρ n) h1 fun i hi hi' => ih (el hok.1 i hi) (h2 i hi hi')
      have a2 := arel_map (ψ := ψ) (g := renV ρ n) h3 fun i hi hi' => ih (el hok.2 i hi) (h4 i hi hi')
      exact .func f a1.1 a1.2 a2.1 a2.2
    | nilFunc => exact .nilFunc
    | iface t h => exact .iface t (ih hok h)
    | nilIface => exact .nilIface
    | agg h1 h2 =>
      have a1 := arel_map (ψ := ψ) (g := renV ρ n) h1 fun i hi hi' => ih (el hok i hi) (h2 i hi hi')
      exact .agg a1.1 a1.2
    | tuple h1 h2 =>
      have a1 := arel_map (ψ := ψ) (g := renV ρ n) h1 fun i hi hi' => ih (el hok i hi) (h2 i hi hi')
      exact .tuple a1.1 a1.2

theorem arel_unmap {ψ : Ren} {g : Value → Value} {as bs : Array Value} (h1 : (as.toList.map g).toArray.size = bs.size) (h : ∀ i (h : i < (as.toList.map g).toArray.size) (h' : i < bs.size), VRel ψ (as.toList.map g).toArray[i] bs[i]) :
    as.size = bs.size ∧ ∀ (i : Nat) (h : i < as.size) (h' : i < bs.size), VRel ψ (g as[i]) bs[i] := by
  refine ⟨by simpa using h1, fun i hi hi' => ?_⟩
  have := h i (by simpa using hi) hi'
  simpa using this

theorem VRel.unren {φ ψ : Ren} {ρ : Nat → Nat} {bd : Nat} (hρ : ∀ i l, i < bd → ψ (ρ i) = some l → φ i = some l) : ∀ (n : Nat) {v v' : Value}, okV bd n v = true → VRel ψ (renV ρ n v) v' → VRel φ v v' := by
  have base : ∀ (n : Nat) {v v' : Value}, okV bd n v = true → VRel ψ (renV ρ n v) v' → (match v with | .agg _ | .tuple _ | .iface _ _ | .func _ _ _ => False | _ => True) → VRel φ v v' := by
    intro n v v' hok h hv
    cases v with
    | bool b => cases n <;> (cases h; exact .bool b)
    | int k n' => cases n <;> (cases h; exact .int k n')
    | float k n' => cases n <;> (cases h; exact .float k n')
    | string s => cases n <;> (cases h; exact .string s)
    | nilFunc => cases n <;> (cases h; exact .nilFunc)
    | nilIface => cases n <;> (cases h; exact .nilIface)
    | pointer a =>
      cases a with
      | none => cases n <;> (cases h; exact .pnil)
      | some a =>
        obtain ⟨b, o, sp⟩ := a
        have hb : b < bd := by cases n <;> simpa [okV, Nat.blt_eq] using hok
        have h : VRel ψ (.pointer (some ⟨ρ b, o, sp⟩)) v' := by cases n <;> exact h
        cases h with
        | ptr hh => exact .ptr (hρ _ _ hb hh)
    | map r =>
      cases r with
      | none => cases n <;> (cases h; exact .mnil)
      | some r =>
        have hb : r < bd := by cases n <;> simpa [okV, Nat.blt_eq] using hok
        have h : VRel ψ (.map (some (ρ r))) v' := by cases n <;> exact h
        cases h with
        | map hh => exact .map (hρ _ _ hb hh)
    | slice a len cap =>
      cases a with
      | none => cases n <;> (cases h; exact .snil _ _)
      | some a =>
        obtain ⟨b, o, sp⟩ := a
        have hb : b < bd := by cases n <;> simpa [okV, Nat.blt_eq] using hok
        have h : VRel ψ (.slice (some ⟨ρ b, o, sp⟩) len cap) v' := by cases n <;> exact h
        cases h with
        | slice hh hc => exact .slice (hρ _ _ hb hh) hc
        | sopen hh a1 a2 a3 a4 => exact .sopen (hρ _ _ hb hh) a1 a2 a3 a4
        | szero _ _ => exact .szero _ _
    | agg _ => exact hv.elim
    | tuple _ => exact hv.elim
    | iface _ _ => exact hv.elim
    | func _ _ _ => exact hv.elim
    | _ => cases n <;> simp [okV] at hok
  intro n
  induction n with
  | zero =>
    intro v v' hok h
    refine base 0 hok h ?_
    cases v <;> first | trivial | (simp [okV] at hok)
  | succ n ih =>
    intro v v' hok h
    have el : ∀ {as : Array Value}, as.toList.all (okV bd n) = true → ∀ i (h : i < as.size), okV bd n as[i] = true := fun ha i hi => List.all_eq_true.1 ha _ (by simp)
    cases v with
    | agg cs =>
      simp only [renV] at h
      generalize hz : (cs.toList.map (renV ρ n)).toArray = zs at h
      cases h with
      | agg h1 h2 =>
        subst hz
        obtain ⟨k1, k2⟩ := arel_unmap h1 h2
        exact .agg k1 fun i hi hi' => ih (el hok i hi) (k2 i hi hi')
    | tuple cs =>
      simp only [renV] at h
      generalize hz : (cs.toList.map (renV ρ n)).toArray = zs at h
      cases h with
      | tuple h1 h2 =>
        subst hz
        obtain ⟨k1, k2⟩ := arel_unmap h1 h2
        exact .tuple k1 fun i hi hi' => ih (el hok i hi) (k2 i hi hi')
    | iface t u =>
      simp only [renV] at h
      cases h with
      | iface _ h => exact .iface t (ih hok h)
    | func f as cs =>
      cases f with
      | func f =>
        simp only [renV] at h
        simp only [okV, Bool.and_eq_true] at hok
        generalize hz : (as.toList.map (renV ρ n)).toArray = zs at h
        generalize hy : (cs.toList.map (renV ρ n)).toArray = ys at h
        cases h with
        | func _ h1 h2 h3 h4 =>
          subst hz; subst hy
          obtain ⟨k1, k2⟩ := arel_unmap h1 h2
          obtain ⟨k3, k4⟩ := arel_unmap h3 h4
          exact .func f k1 (fun i hi hi' => ih (el hok.1 i hi) (k2 i hi hi')) k3 (fun i hi hi' => ih (el hok.2 i hi) (k4 i hi hi'))
      | _ => simp [okV] at hok
    | _ => exact base (n + 1) hok h trivial

def renO (ρ : Nat → Nat) : AObj → AObj
  | .cells c e sz fz ro hd => .cells (c.map (renV ρ 8)) e sz fz ro hd
  | o => o
def okO (b : Nat) : AObj → Bool
  | .cells c _ _ _ _ _ => c.all (okV b 8)
  | _ => false
theorem renO_ro (ρ : Nat → Nat) (o : AObj) : (renO ρ o).ro = o.ro := by cases o <;> rfl

theorem ORel.ren {φ ψ : Ren} {ρ : Nat → Nat} {bd : Nat} (hρ : ∀ i l, φ i = some l → ψ (ρ i) = some l) {o : AObj} {l : Loc} {w : World} (hok : okO bd o = true) (h : ORel φ o l w) : ORel ψ (renO ρ o) l w := by
  cases o with
  | cells c e sz fz ro hd =>
    obtain ⟨c', fr, h1, h2, h3, h4, h5, h6, h7⟩ := h
    refine ⟨c', fr, h1, h2, h3, h4, by rw [List.length_map]; exact h5, fun i v hv => ?_, h7⟩
    rw [List.getElem?_map] at hv
    cases hc : c[i]? with
    | none => rw [hc] at hv; cases hv
    | some u =>
      rw [hc] at hv
      cases hv
      obtain ⟨v', g1, g2⟩ := h6 i u hc
      exact ⟨v', g1, g2.ren hρ 8 (List.all_eq_true.1 hok u (List.mem_of_getElem? hc))⟩
  | _ => simp [okO] at hok

theorem ORel.unren {φ ψ : Ren} {ρ : Nat → Nat} {bd : Nat} (hρ : ∀ i l, i < bd → ψ (ρ i) = some l → φ i = some l) {o : AObj} {l : Loc} {w : World} (hok : okO bd o = true) (h : ORel ψ (renO ρ o) l w) : ORel φ o l w := by
  cases o with
  | cells c e sz fz ro hd =>
    obtain ⟨c', fr, h1, h2, h3, h4, h5, h6, h7⟩ := h
    rw [List.length_map] at h5
    refine ⟨c', fr, h1, h2, h3, h4, h5, fun i v hv => ?_, h7⟩
    obtain ⟨v', g1, g2⟩ := h6 i (renV ρ 8 v) (by rw [List.getElem?_map, hv]; rfl)
    exact ⟨v', g1, g2.unren hρ 8 (List.all_eq_true.1 hok v (List.mem_of_getElem? hv))⟩
  | _ => simp [okO] at hok

/-- Of every object that is there, with its number. -/
def allT (p : Nat → AObj → Bool) : Tr AObj → Bool
  | .nil => true
  | .node l v r => allT (fun j => p (2 * j + 1)) l && (match v with | some o => p 0 o | none => true) && allT (fun j => p (2 * j + 2)) r
theorem allT_get : ∀ (t : Tr AObj) (p : Nat → AObj → Bool), allT p t = true → ∀ i o, t.get i = some o → p i o = true := by
  intro t
  induction t with
  | nil => intro p _ i o h; rw [Tr.get_nil] at h; cases h
  | node l v r ihl ihr =>
    intro p h i o hi
    simp only [allT, Bool.and_eq_true] at h
    obtain ⟨⟨h1, h2⟩, h3⟩ := h
    cases i with
    | zero => simp only [Tr.get] at hi; subst hi; exact h2
    | succ m =>
      simp only [Tr.get] at hi
      cases hm : (m % 2 == 0) with
      | true =>
        rw [hm] at hi
        have := ihl _ h1 (m / 2) o hi
        rw [beq_iff_eq] at hm
        rwa [show 2 * (m / 2) + 1 = m + 1 from by omega] at this
      | false =>
        rw [hm] at hi
        have := ihr _ h3 (m / 2) o hi
        have hm2 : m % 2 ≠ 0 := by simpa using hm
        rwa [show 2 * (m / 2) + 2 = m + 1 from by omega] at this

/-- May a run be put anywhere? -/
def okRun (n0 : Nat) (l0 : List Value) (h0 : Tr AObj) (n1 : Nat) (h1 : Tr AObj) (v1 : Value) : Bool :=
  l0.all (okV n0 8) && allT (fun i o => Nat.blt i n0 && okO n0 o) h0 && allT (fun _ o => okO n1 o) h1 && okV n1 8 v1 && Nat.ble n0 n1

/-- The numbers of what a run knew, and of what it made. -/
def renN (ρ : Nat → Nat) (n0 nx i : Nat) : Nat := if i < n0 then ρ i else nx + (i - n0)

def placeT (ρ : Nat → Nat) (h1 : Tr AObj) : Nat → Tr AObj → Tr AObj
  | 0, hp => hp
  | n + 1, hp => (placeT ρ h1 n hp).set (ρ n) ((h1.get n).map (renO ρ))

theorem placeT_at {ρ : Nat → Nat} {h1 : Tr AObj} : ∀ (n : Nat) (hp : Tr AObj), (∀ i j, i < n → j < n → ρ i = ρ j → i = j) → ∀ i, i < n → (placeT ρ h1 n hp).get (ρ i) = (h1.get i).map (renO ρ) := by
  intro n
  induction n with
  | zero => intro hp _ i hi; omega
  | succ n ih =>
    intro hp hinj i hi
    simp only [placeT]
    by_cases e : i = n
    · subst e; exact Tr.get_set_same _ _ _
    · rw [Tr.get_set_ne _ _ fun h => e (hinj i n hi (Nat.lt_succ_self n) h)]
      exact ih hp (fun a b ha hb => hinj a b (by omega) (by omega)) i (by omega)
theorem placeT_off {ρ : Nat → Nat} {h1 : Tr AObj} : ∀ (n : Nat) (hp : Tr AObj) (j : Nat), (∀ i, i < n → ρ i ≠ j) → (placeT ρ h1 n hp).get j = hp.get j := by
  intro n
  induction n with
  | zero => intro hp j _; rfl
  | succ n ih =>
    intro hp j h
    simp only [placeT]
    rw [Tr.get_set_ne _ _ fun e => h n (Nat.lt_succ_self n) e.symm]
    exact ih hp j fun i hi => h i (by omega)

theorem lrel_unren {φ ψ : Ren} {ρ : Nat → Nat} {bd : Nat} (hρ : ∀ i l, i < bd → ψ (ρ i) = some l → φ i = some l) : ∀ {l args : List Value}, l.all (okV bd 8) = true → LRel ψ (l.map (renV ρ 8)) args → LRel φ l args := by
  intro l
  induction l with
  | nil => intro args _ h; cases h; exact .nil
  | cons v l ih =>
    intro args hok h
    simp only [List.all_cons, Bool.and_eq_true] at hok
    cases h with
    | cons h1 t => exact .cons (h1.unren hρ 8 hok.1) (ih hok.2 t)

theorem acall_ren {P : Program} {cf : CF} (hcf : CSound P 0 cf) {f : FuncId} {l0 : List Value} {h0 h1 : Tr AObj} {n0 n1 : Nat} {v1 : Value} (hrun : cf f l0 h0 n0 = some [⟨some v1, h1, n1⟩]) (chk : okRun n0 l0 h0 n1 h1 v1 = true)
    {ρ : Nat → Nat} {hp : Tr AObj} {nx : Nat} (inj : ∀ i j, i < n0 → j < n0 → ρ i = ρ j → i = j) (hlt : ∀ i, i < n0 → ρ i < nx) (hget : ∀ i o, h0.get i = some o → hp.get (ρ i) = some (renO ρ o)) :
    ACall P 0 f (l0.map (renV ρ 8)) hp nx (fun v hp' nx' => v = renV (renN ρ n0 nx) 8 v1 ∧ nx' = nx + (n1 - n0) ∧ (∀ i, i < n1 → hp'.get (renN ρ n0 nx i) = (h1.get i).map (renO (renN ρ n0 nx))) ∧ (∀ j, (∀ i, i < n1 → renN ρ n0 nx i ≠ j) → hp'.get j = hp.get j)) := by
  simp only [okRun, Bool.and_eq_true, Nat.ble_eq] at chk
  obtain ⟨⟨⟨⟨c1, c2⟩, c3⟩, c4⟩, c5⟩ := chk
  have k2 : ∀ i o, h0.get i = some o → i < n0 ∧ okO n0 o = true := fun i o h => by
    have := allT_get h0 _ c2 i o h
    simpa [Nat.blt_eq] using this
  have k3 : ∀ i o, h1.get i = some o → okO n1 o = true := fun i o h => allT_get h1 _ c3 i o h
  have r0 : ∀ i, i < n0 → renN ρ n0 nx i = ρ i := fun i hi => by unfold renN; rw [if_pos hi]
  have r1 : ∀ i, ¬ i < n0 → renN ρ n0 nx i = nx + (i - n0) := fun i hi => by unfold renN; rw [if_neg hi]
  have inj1 : ∀ i j, i < n1 → j < n1 → renN ρ n0 nx i = renN ρ n0 nx j → i = j := by
    intro i j hi hj e
    by_cases a : i < n0
    · by_cases b : j < n0
      · rw [r0 i a, r0 j b] at e; exact inj i j a b e
      · rw [r0 i a, r1 j b] at e; have := hlt i a; omega
    · by_cases b : j < n0
      · rw [r1 i a, r0 j b] at e; have := hlt j b; omega
      · rw [r1 i a, r1 j b] at e; omega
  intro φ w args hG hl hw hb
  -- what is known, in the small
  let φs : Ren := fun i => if i < n0 then φ (ρ i) else none
  have s0 : ∀ i l, φs i = some l → i < n0 ∧ φ (ρ i) = some l := fun i l h => by
    have h' : (if i < n0 then φ (ρ i) else none) = some l := h
    split at h'
    · rename_i hi; exact ⟨hi, h'⟩
    · cases h'
  have s1 : ∀ i l, i < n0 → φ (ρ i) = some l → φs i = some l := fun i l hi h => by
    show (if i < n0 then φ (ρ i) else none) = some l
    rw [if_pos hi]; exact h
  have hws : WRel φs h0 w := by
    refine ⟨fun i o l hi hl => ?_, fun i j oi oj li lj hij hi hj hli hlj hbb => ?_⟩
    · obtain ⟨a1, a2⟩ := k2 i o hi
      exact (hw.obj _ _ _ (hget i o hi) (s0 i l hl).2).unren (fun j l' hj h => s1 j l' hj h) a2
    · have a := k2 i oi hi
      have b := k2 j oj hj
      have := hw.apart (ρ i) (ρ j) _ _ li lj (fun e => hij (inj i j a.1 b.1 e)) (hget i oi hi) (hget j oj hj) (s0 i li hli).2 (s0 j lj hlj).2 hbb
      simpa [renO_ro] using this
  have hbs : ∀ i, φs i ≠ none → i < n0 := fun i hi => by
    cases h : φs i with
    | none => exact absurd h hi
    | some l => exact (s0 i l h).1
  refine (hcf f l0 h0 n0 _ hrun φs w args (fun g hg => absurd hg (Nat.not_lt_zero g)) (lrel_unren (fun i l hi h => s1 i l hi h) c1 hl) hws hbs).mono fun v' w' hback => ?_
  obtain ⟨r, hr, φt, v, hv, hx, hwt, hbt, hvv⟩ := hback
  rw [List.mem_singleton.1 hr] at hv hx hwt hbt
  cases hv
  simp only at hx hwt hbt
  -- the places of all
  let φ' : Ren := fun j => open Classical in if h : ∃ i, i < n1 ∧ renN ρ n0 nx i = j then φt (Classical.choose h) else if j < nx then φ j else none
  have p1 : ∀ i, i < n1 → φ' (renN ρ n0 nx i) = φt i := by
    intro i hi
    have hex : ∃ i', i' < n1 ∧ renN ρ n0 nx i' = renN ρ n0 nx i := ⟨i, hi, rfl⟩
    show (open Classical in if h : ∃ i', i' < n1 ∧ renN ρ n0 nx i' = renN ρ n0 nx i then φt (Classical.choose h) else _) = _
    rw [dif_pos hex]
    have hc := Classical.choose_spec hex
    rw [inj1 _ _ hc.1 hi hc.2]
  have p2 : ∀ j, (∀ i, i < n1 → renN ρ n0 nx i ≠ j) → φ' j = if j < nx then φ j else none := by
    intro j hj
    have hex : ¬ ∃ i', i' < n1 ∧ renN ρ n0 nx i' = j := fun ⟨i, hi, e⟩ => hj i hi e
    show (open Classical in if h : ∃ i', i' < n1 ∧ renN ρ n0 nx i' = j then φt (Classical.choose h) else _) = _
    rw [dif_neg hex]
  have pr : ∀ i l, φt i = some l → φ' (renN ρ n0 nx i) = some l := fun i l h => by
    rw [p1 i (hbt i (by rw [h]; simp))]; exact h
  have cases_ : ∀ j, (∃ i, i < n1 ∧ renN ρ n0 nx i = j) ∨ (∀ i, i < n1 → renN ρ n0 nx i ≠ j) := fun j => by
    by_cases h : ∃ i, i < n1 ∧ renN ρ n0 nx i = j
    · exact .inl h
    · exact .inr fun i hi e => h ⟨i, hi, e⟩
  let hp' := placeT (renN ρ n0 nx) h1 n1 hp
  have g1 : ∀ i, i < n1 → hp'.get (renN ρ n0 nx i) = (h1.get i).map (renO (renN ρ n0 nx)) := placeT_at n1 hp inj1
  have g2 : ∀ j, (∀ i, i < n1 → renN ρ n0 nx i ≠ j) → hp'.get j = hp.get j := fun j => placeT_off n1 hp j
  -- an old object outside: where it lies nobody of the small ones that are written does
  have outside : ∀ j o l, (∀ i, i < n1 → renN ρ n0 nx i ≠ j) → hp.get j = some o → φ j = some l → ∀ i oi li, h0.get i = some oi → φs i = some li → li.blk = l.blk → oi.ro = true ∧ o.ro = true := by
    intro j o l hj hgj hlj i oi li hi hli hbb
    obtain ⟨a1, a2⟩ := k2 i oi hi
    have hne : ρ i ≠ j := fun e => hj i (by omega) (by rw [r0 i a1, e])
    have := hw.apart (ρ i) j _ o li l hne (hget i oi hi) hgj (s0 i li hli).2 hlj hbb
    rw [renO_ro] at this
    exact this
  have touchOf : ∀ k, Touch φs h0 k → Touch φ hp k := by
    rintro k ⟨i, o, l, a1, a2, a3, a4⟩
    exact ⟨ρ i, _, l, hget i o a1, by rw [renO_ro]; exact a2, (s0 i l a3).2, a4⟩
  have hmaps : MapsStep w w' := MapsStep.of_same fun k es ck he => by
    have hlt : k < w.heap.size := by
      rcases Nat.lt_or_ge k w.heap.size with h | h
      · exact h
      · rw [Array.getElem?_eq_none h] at he; cases he
    rw [hx.frame k hlt ?_]; exact he
    rintro ⟨i, o, l, a1, a2, a3, a4⟩
    obtain ⟨_, b2⟩ := k2 i o a1
    have ho := hws.obj i o l a1 a3
    cases o with
    | cells c e sz fz ro hd => obtain ⟨c', fr, q, _⟩ := ho; rw [a4, he] at q; cases q
    | _ => simp [okO] at b2
  have hfin : WRel φ' hp' w' := by
    have objOut : ∀ j o l, (∀ i, i < n1 → renN ρ n0 nx i ≠ j) → hp'.get j = some o → φ' j = some l → hp.get j = some o ∧ φ j = some l := by
      intro j o l hj ho hl
      rw [g2 j hj] at ho
      rw [p2 j hj] at hl
      split at hl
      · exact ⟨ho, hl⟩
      · cases hl
    have objIn : ∀ i o l, i < n1 → hp'.get (renN ρ n0 nx i) = some o → φ' (renN ρ n0 nx i) = some l → ∃ o1, h1.get i = some o1 ∧ o = renO (renN ρ n0 nx) o1 ∧ φt i = some l := by
      intro i o l hi ho hl
      rw [g1 i hi] at ho
      rw [p1 i hi] at hl
      cases h : h1.get i with
      | none => rw [h] at ho; cases ho
      | some o1 => rw [h] at ho; cases ho; exact ⟨o1, rfl, rfl, hl⟩
    -- an object inside and one outside
    have mixed : ∀ i j o1 o li lj, i < n1 → (∀ i, i < n1 → renN ρ n0 nx i ≠ j) → h1.get i = some o1 → φt i = some li → hp.get j = some o → φ j = some lj → li.blk = lj.blk → o1.ro = true ∧ o.ro = true := by
      intro i j o1 o li lj hi hj hg hli hgj hlj hbb
      rcases hx.born i o1 li hg hli with h | ⟨i0, o0, l0, q1, q2, q3, q4⟩
      · have := (hw.obj j o lj hgj hlj).blk_lt
        omega
      · obtain ⟨e1, e2⟩ := outside j o lj hj hgj hlj i0 o0 l0 q1 q2 (q3.trans hbb)
        exact ⟨q4 e1, e2⟩
    refine ⟨fun j o l ho hl => ?_, fun i j oi oj li lj hij hi hj hli hlj hbb => ?_⟩
    · rcases cases_ j with ⟨i, hi, rfl⟩ | hj
      · obtain ⟨o1, a1, rfl, a3⟩ := objIn i o l hi ho hl
        exact (hwt.obj i o1 l a1 a3).ren pr (k3 i o1 a1)
      · obtain ⟨a1, a2⟩ := objOut j o l hj ho hl
        have hor := hw.obj j o l a1 a2
        refine hor.keep (fun j2 l2 h2 => ?_) (hx.frame _ hor.blk_lt ?_) hmaps
        · rcases cases_ j2 with ⟨i2, hi2, rfl⟩ | hj2
          · have hj3 := hb _ (by rw [h2]; simp)
            have hi3 : i2 < n0 := by
              by_cases q : i2 < n0
              · exact q
              · rw [r1 i2 q] at hj3; omega
            rw [p1 i2 hi2]
            rw [r0 i2 hi3] at h2
            exact hx.le _ _ (s1 i2 l2 hi3 h2)
          · rw [p2 j2 hj2, if_pos (hb j2 (by rw [h2]; simp))]; exact h2
        · rintro ⟨i, oi, li, q1, q2, q3, q4⟩
          have := (outside j o l hj a1 a2 i oi li q1 q3 q4).1
          rw [q2] at this; cases this
    · rcases cases_ i with ⟨i1, hi1, rfl⟩ | hi1
      · obtain ⟨o1, a1, rfl, a3⟩ := objIn i1 oi li hi1 hi hli
        rw [renO_ro]
        rcases cases_ j with ⟨j1, hj1, rfl⟩ | hj1
        · obtain ⟨o2, b1, rfl, b3⟩ := objIn j1 oj lj hj1 hj hlj
          rw [renO_ro]
          exact hwt.apart i1 j1 o1 o2 li lj (fun e => hij (by rw [e])) a1 b1 a3 b3 hbb
        · obtain ⟨b1, b2⟩ := objOut j oj lj hj1 hj hlj
          exact mixed i1 j o1 oj li lj hi1 hj1 a1 a3 b1 b2 hbb
      · obtain ⟨a1, a2⟩ := objOut i oi li hi1 hi hli
        rcases cases_ j with ⟨j1, hj1, rfl⟩ | hj1
        · obtain ⟨o2, b1, rfl, b3⟩ := objIn j1 oj lj hj1 hj hlj
          rw [renO_ro]
          have := mixed j1 i o2 oi lj li hj1 hi1 b1 b3 a1 a2 hbb.symm
          exact ⟨this.2, this.1⟩
        · obtain ⟨b1, b2⟩ := objOut j oj lj hj1 hj hlj
          exact hw.apart i j oi oj li lj hij a1 b1 a2 b2 hbb
  refine ⟨renV (renN ρ n0 nx) 8 v1, hp', nx + (n1 - n0), ⟨rfl, rfl, g1, g2⟩, φ', ⟨fun j l h => ?_, hx.os, hx.tape, hx.output, hx.size, fun k hk hk2 => hx.frame k hk fun h => hk2 (touchOf k h), fun j o l ho hl => ?_⟩, hfin, fun j hj => ?_, hvv.ren pr 8 c4⟩
  · rcases cases_ j with ⟨i, hi, rfl⟩ | hj
    · have hj3 := hb _ (by rw [h]; simp)
      have hi3 : i < n0 := by
        by_cases q : i < n0
        · exact q
        · rw [r1 i q] at hj3; omega
      rw [p1 i hi]
      rw [r0 i hi3] at h
      exact hx.le _ _ (s1 i l hi3 h)
    · rw [p2 j hj, if_pos (hb j (by rw [h]; simp))]; exact h
  · rcases cases_ j with ⟨i, hi, rfl⟩ | hj
    · rw [p1 i hi] at hl
      rw [g1 i hi] at ho
      cases hh : h1.get i with
      | none => rw [hh] at ho; cases ho
      | some o1 =>
        rw [hh] at ho
        cases ho
        rw [renO_ro]
        rcases hx.born i o1 l hh hl with q | ⟨i0, o0, l0, q1, q2, q3, q4⟩
        · exact .inl q
        · exact .inr ⟨ρ i0, _, l0, hget i0 o0 q1, (s0 i0 l0 q2).2, q3, fun q => q4 (by rwa [renO_ro] at q)⟩
    · rw [g2 j hj] at ho
      rw [p2 j hj] at hl
      split at hl
      · exact born_same ho hl
      · cases hl
  · rcases cases_ j with ⟨i, hi, rfl⟩ | hj2
    · by_cases q : i < n0
      · rw [r0 i q]; have := hlt i q; omega
      · rw [r1 i q]; omega
    · rw [p2 j hj2] at hj
      split at hj
      · rename_i hjn; omega
      · exact absurd rfl hj
end Go.Proofs.YtkjkoejnicbieaaGreat.AM

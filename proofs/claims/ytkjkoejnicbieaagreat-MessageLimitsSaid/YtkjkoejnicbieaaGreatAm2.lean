/-
  THE ABSTRACT MACHINE, part 2: single operations that only compute or read ('quiet'), and what the model does at them.
-/
import Derived.Test.YtkjkoejnicbieaaGreatAm1
import Derived.WalkSpells
import Derived.Laws.Cover3
import Derived.MapKept
namespace Go.Proofs.YtkjkoejnicbieaaGreat.AM
open Go Go.RowKit

/-! ### Values without addresses -/
def cst : Nat → Value → Bool
  | _, .bool _ | _, .int _ _ | _, .float _ _ | _, .string _ | _, .pointer none | _, .slice none _ _ | _, .map none | _, .nilFunc | _, .nilIface => true
  | n + 1, .agg cs => cs.toList.all (cst n)
  | n + 1, .tuple cs => cs.toList.all (cst n)
  | n + 1, .iface _ v => cst n v
  | _, _ => false

theorem cst_rel (φ : Ren) : ∀ (n : Nat) (v : Value), cst n v = true → VRel φ v v := by
  intro n
  induction n with
  | zero =>
    intro v h
    cases v with
    | bool b => constructor
    | int k m => constructor
    | float k m => constructor
    | string s => constructor
    | pointer a => cases a <;> first | (simp [cst] at h; done) | constructor
    | slice a l c => cases a <;> first | (simp [cst] at h; done) | constructor
    | map r => cases r <;> first | (simp [cst] at h; done) | constructor
    | nilFunc => constructor
    | nilIface => constructor
    | complex k a b => simp [cst] at h
    | chan r => simp [cst] at h
    | func f a b => simp [cst] at h
    | iface t v => simp [cst] at h
    | agg cs => simp [cst] at h
    | tuple cs => simp [cst] at h
  | succ n ih =>
    intro v h
    have arr : ∀ cs : Array Value, cs.toList.all (cst n) = true → ∀ i (h : i < cs.size) (h' : i < cs.size), VRel φ cs[i] cs[i] :=
      fun cs hc i hi _ => ih _ (by rw [List.all_eq_true] at hc; exact hc _ (by simp))
    cases v with
    | bool b => constructor
    | int k m => constructor
    | float k m => constructor
    | complex k a b => simp [cst] at h
    | string s => constructor
    | pointer a => cases a <;> first | (simp [cst] at h; done) | constructor
    | slice a l c => cases a <;> first | (simp [cst] at h; done) | constructor
    | map r => cases r <;> first | (simp [cst] at h; done) | constructor
    | chan r => simp [cst] at h
    | func f a b => simp [cst] at h
    | nilFunc => constructor
    | iface t v => exact .iface t (ih v (by simpa [cst] using h))
    | nilIface => constructor
    | agg cs => exact .agg rfl (arr cs (by simpa [cst] using h))
    | tuple cs => exact .tuple rfl (arr cs (by simpa [cst] using h))

theorem undef_rel (φ : Ren) : VRel φ undef undef := cst_rel φ 1 undef (by simp [undef, cst])

/-! ### Values that are the same -/
def listEq {α : Type} (eq : α → α → Bool) : List α → List α → Bool
  | [], [] => true
  | a :: as, b :: bs => eq a b && listEq eq as bs
  | _, _ => false

theorem listEq_eq {α : Type} {eq : α → α → Bool} (h : ∀ a b, eq a b = true → a = b) : ∀ (as bs : List α), listEq eq as bs = true → as = bs
  | [], [], _ => rfl
  | a :: as, b :: bs, e => by
    simp only [listEq, Bool.and_eq_true] at e
    rw [h a b e.1, listEq_eq h as bs e.2]
  | [], _ :: _, e => by simp [listEq] at e
  | _ :: _, [], e => by simp [listEq] at e

def optEq {α : Type} (eq : α → α → Bool) : Option α → Option α → Bool
  | none, none => true
  | some a, some b => eq a b
  | _, _ => false

theorem optEq_eq {α : Type} {eq : α → α → Bool} (h : ∀ a b, eq a b = true → a = b) : ∀ (a b : Option α), optEq eq a b = true → a = b
  | none, none, _ => rfl
  | some a, some b, e => by rw [h a b e]
  | none, some _, e => by simp [optEq] at e
  | some _, none, e => by simp [optEq] at e

def addrEq (a b : Addr) : Bool := Nat.beq a.block b.block && Nat.beq a.off b.off && (match a.spot, b.spot with | none, none => true | _, _ => false)

theorem addrEq_eq (a b : Addr) (h : addrEq a b = true) : a = b := by
  obtain ⟨x, y, z⟩ := a
  obtain ⟨x', y', z'⟩ := b
  simp only [addrEq, Bool.and_eq_true] at h
  obtain ⟨⟨h1, h2⟩, h3⟩ := h
  rw [Nat.eq_of_beq_eq_true h1, Nat.eq_of_beq_eq_true h2]
  cases z <;> cases z' <;> first | rfl | cases h3

def intEq (a b : Int) : Bool :=
  match a, b with
  | .ofNat m, .ofNat n => Nat.beq m n
  | .negSucc m, .negSucc n => Nat.beq m n
  | _, _ => false

theorem intEq_eq (a b : Int) (h : intEq a b = true) : a = b := by
  cases a <;> cases b <;> simp only [intEq] at h
  · rw [Nat.eq_of_beq_eq_true h]
  · cases h
  · cases h
  · rw [Nat.eq_of_beq_eq_true h]

def byteEq (a b : UInt8) : Bool := Nat.beq a.toNat b.toNat
theorem byteEq_eq (a b : UInt8) (h : byteEq a b = true) : a = b := UInt8.toNat.inj (Nat.eq_of_beq_eq_true h)

def valEq : Nat → Value → Value → Bool
  | _, .bool a, .bool b => a == b
  | _, .int k a, .int l b => decide (k = l) && intEq a b
  | _, .string a, .string b => listEq byteEq a.data.toList b.data.toList
  | _, .pointer a, .pointer b => optEq addrEq a b
  | _, .slice a n c, .slice b m d => optEq addrEq a b && Nat.beq n m && Nat.beq c d
  | _, .map a, .map b => optEq Nat.beq a b
  | _, .nilFunc, .nilFunc => true
  | _, .nilIface, .nilIface => true
  | n + 1, .agg a, .agg b => listEq (valEq n) a.toList b.toList
  | n + 1, .tuple a, .tuple b => listEq (valEq n) a.toList b.toList
  | n + 1, .iface t a, .iface u b => Nat.beq t u && valEq n a b
  | n + 1, .func (.func f) a c, .func (.func g) b d => Nat.beq f g && listEq (valEq n) a.toList b.toList && listEq (valEq n) c.toList d.toList
  | _, _, _ => false

theorem valEq_eq : ∀ (n : Nat) (a b : Value), valEq n a b = true → a = b := by
  have nb : ∀ a b : Nat, Nat.beq a b = true → a = b := fun a b => Nat.eq_of_beq_eq_true
  intro n
  induction n with
  | zero =>
    intro a b h
    unfold valEq at h
    split at h
    all_goals first
      | (simp at h; rw [h]; done)
      | (simp only [Bool.and_eq_true, decide_eq_true_eq] at h; rw [h.1, intEq_eq _ _ h.2]; done)
      | (have := listEq_eq byteEq_eq _ _ h; congr 1; apply ByteArray.ext; exact Array.ext' this; done)
      | (rw [optEq_eq addrEq_eq _ _ h]; done)
      | (simp only [Bool.and_eq_true] at h; rw [optEq_eq addrEq_eq _ _ h.1.1, nb _ _ h.1.2, nb _ _ h.2]; done)
      | (rw [optEq_eq nb _ _ h]; done)
      | rfl
      | cases h
      | (exfalso; omega)
      | contradiction
  | succ n ih =>
    intro a b h
    unfold valEq at h
    split at h
    all_goals try (rename_i hsucc; injection hsucc with hsucc; subst hsucc)
    all_goals try (rename_i hsucc _ _; injection hsucc with hsucc; subst hsucc)
    all_goals try (rename_i hsucc _ _ _ _; injection hsucc with hsucc; subst hsucc)
    all_goals first
      | (simp at h; rw [h]; done)
      | (simp only [Bool.and_eq_true, decide_eq_true_eq] at h; rw [h.1, intEq_eq _ _ h.2]; done)
      | (have := listEq_eq byteEq_eq _ _ h; congr 1; apply ByteArray.ext; exact Array.ext' this; done)
      | (rw [optEq_eq addrEq_eq _ _ h]; done)
      | (simp only [Bool.and_eq_true] at h; rw [optEq_eq addrEq_eq _ _ h.1.1, nb _ _ h.1.2, nb _ _ h.2]; done)
      | (rw [optEq_eq nb _ _ h]; done)
      | rfl
      | (have := listEq_eq ih _ _ h; congr 1; exact Array.ext' this; done)
      | (simp only [Bool.and_eq_true] at h; rw [nb _ _ h.1, ih _ _ h.2]; done)
      | (simp only [Bool.and_eq_true] at h; rw [nb _ _ h.1.1, Array.ext' (listEq_eq ih _ _ h.1.2), Array.ext' (listEq_eq ih _ _ h.2)]; done)
      | cases h

/-! ### What the program's tables tell -/
def szOf (P : Program) (t : TypeId) : Option Nat := (P.info? t).map (·.size)
def zeroOf (P : Program) (t : TypeId) : Option Value := (P.info? t).bind (·.zero)

theorem run_sizeOf {P : Program} {t : TypeId} {n : Nat} (h : szOf P t = some n) (w : World) : (sizeOf t).run P w = .ok n w := by
  unfold szOf at h
  cases hi : P.info? t with
  | none => simp [hi] at h
  | some i => simp [hi] at h; subst h; simp [sizeOf, typeInfo, hi]

theorem run_zeroValue {P : Program} {t : TypeId} {z : Value} (h : zeroOf P t = some z) (w : World) : (zeroValue t).run P w = .ok z w := by
  unfold zeroOf at h
  cases hi : P.info? t with
  | none => simp [hi] at h
  | some i =>
    simp [hi] at h
    simp [zeroValue, typeInfo, hi, h]

/-- Is a type's value made of several cells? -/
def aggT (P : Program) (t : TypeId) : Option Bool :=
  match P.underlying t with
  | some (.struct _) | some (.array _ _) => some true
  | some _ => some false
  | none => none

theorem run_isAgg {P : Program} {t : TypeId} {b : Bool} (h : aggT P t = some b) (w : World) : (isAgg t).run P w = .ok b w := by
  unfold aggT at h
  cases hd : P.underlying t with
  | none => simp [hd] at h
  | some d => cases d <;> simp [hd] at h <;> subst h <;> simp [isAgg, run_underlying hd]

/-! ### Operands -/
def aev (G : Nat) (tm : Tr Value) : Operand → Option Value
  | .tmp t => tm.get t
  | .const v => bif cst 8 v then some v else none
  | .global g => bif Nat.blt g G then some (.pointer (some ⟨g, 0, none⟩)) else none
  | .func f => some (.func (.func f) #[] #[])

/-- The package-level variables lie where they lie. -/
def GRel (G : Nat) (φ : Ren) : Prop := ∀ g, g < G → ∃ l, φ g = some l ∧ l.blk = g ∧ l.off = 0

theorem GRel.mono {G : Nat} {φ ψ : Ren} (h : GRel G φ) (hle : Ren.le φ ψ) : GRel G ψ := fun g hg => let ⟨l, a, b⟩ := h g hg; ⟨l, hle _ _ a, b⟩

/-- The temporaries. -/
def TRel (φ : Ren) (tm : Tr Value) (a : Act) : Prop := ∀ t v, tm.get t = some v → VRel φ v (a.tmps.getD t undef)

theorem TRel.mono {φ ψ : Ren} (hle : Ren.le φ ψ) {tm : Tr Value} {a : Act} (h : TRel φ tm a) : TRel ψ tm a := fun t v hv => (h t v hv).mono hle

theorem aev_rel {G : Nat} {φ : Ren} (hG : GRel G φ) {tm : Tr Value} {a : Act} (h : TRel φ tm a) (x : Operand) {u : Value} (hu : aev G tm x = some u) : VRel φ u (a.eval x) := by
  cases x with
  | tmp t => exact h t u hu
  | const v =>
    cases hc : cst 8 v with
    | false => simp [aev, hc] at hu
    | true => simp [aev, hc] at hu; subst hu; exact cst_rel φ 8 v hc
  | global g =>
    cases hc : Nat.blt g G with
    | false => simp [aev, hc] at hu
    | true =>
      simp [aev, hc] at hu
      subst hu
      obtain ⟨l, h1, h2, h3⟩ := hG g (by simpa [Nat.blt_eq] using hc)
      have := VRel.ptr (o := 0) h1
      rw [h2, h3] at this
      exact this
  | func f => simp [aev] at hu; subst hu; exact .func f rfl (fun i h => by simp at h) rfl (fun i h => by simp at h)

theorem TRel.put {φ : Ren} {tm : Tr Value} {a : Act} (h : TRel φ tm a) {d : Tmp} (hd : d < a.tmps.size) {u v : Value} (hv : VRel φ u v) : TRel φ (tm.set d (some u)) (a.put (some d) v) := by
  intro t x hx
  rw [Tr.get_set] at hx
  by_cases e : t = d
  · subst e
    simp at hx
    subst hx
    simpa [Act.put, hd] using hv
  · have e' : d ≠ t := fun x => e x.symm
    rw [if_neg e] at hx
    simpa [Act.put, Array.getElem?_setIfInBounds_ne e'] using h t x hx

/-! ### Reading cells -/
def ldCell (hp : Tr AObj) (b o : Nat) : Option Value :=
  match hp.get b with
  | some (.cells c _ _ _ _ _) => c[o]?
  | _ => none

def ldCells (hp : Tr AObj) (b o n : Nat) : Option (List Value) :=
  match hp.get b with
  | some (.cells c _ _ _ _ _) => bif Nat.ble (o + n) c.length then some ((c.drop o).take n) else none
  | _ => none

theorem ldCell_sound {φ : Ren} {hp : Tr AObj} {w : World} (hw : WRel φ hp w) {b o : Nat} {v : Value} (h : ldCell hp b o = some v) {l : Loc} (hl : φ b = some l) :
    ∃ v', w.cell? ⟨l.blk, l.off + o, none⟩ = some v' ∧ VRel φ v v' := by
  unfold ldCell at h
  cases hg : hp.get b with
  | none => simp [hg] at h
  | some ob =>
    cases ob <;> simp [hg] at h
    rename_i c e sz fz ro hd
    obtain ⟨c', fr, h1, _, _, _, _, h4, _⟩ := hw.obj _ _ _ hg hl
    obtain ⟨v', g1, g2⟩ := h4 o v h
    exact ⟨v', by simp [World.cell?, h1, g1], g2⟩

theorem ldCells_get {hp : Tr AObj} {b o n : Nat} {vs : List Value} (h : ldCells hp b o n = some vs) : vs.length = n ∧ ∀ j v, vs[j]? = some v → ldCell hp b (o + j) = some v := by
  unfold ldCells at h
  cases hg : hp.get b with
  | none => simp [hg] at h
  | some ob =>
    cases ob <;> simp [hg] at h
    rename_i c e sz fz ro hd
    cases hb : Nat.ble (o + n) c.length with
    | false => simp [hb] at h
    | true =>
      simp [hb] at h
      subst h
      have hle : o + n ≤ c.length := by simpa using hb
      refine ⟨by simp; omega, fun j v hv => ?_⟩
      rw [List.getElem?_take] at hv
      split at hv
      · rw [List.getElem?_drop] at hv
        simpa [ldCell, hg] using hv
      · cases hv

/-- What a row of cells reads as. -/
theorem ldCells_sound {φ : Ren} {hp : Tr AObj} {w : World} (hw : WRel φ hp w) {b o n : Nat} {vs : List Value} (h : ldCells hp b o n = some vs) {l : Loc} (hl : φ b = some l) :
    ∃ vs' : List Value, vs'.length = n ∧ (∀ j v, vs'[j]? = some v → w.cell? (Addr.add ⟨l.blk, l.off + o, none⟩ j) = some v) ∧ ARel φ vs.toArray vs'.toArray := by
  obtain ⟨hlen, hget⟩ := ldCells_get h
  have key : ∀ m, m ≤ n → ∃ vs' : List Value, vs'.length = m ∧ (∀ j v, vs'[j]? = some v → w.cell? (Addr.add ⟨l.blk, l.off + o, none⟩ j) = some v) ∧ ARel φ (vs.take m).toArray vs'.toArray := by
    intro m
    induction m with
    | zero => exact fun _ => ⟨[], rfl, by simp, by simpa using ARel.nil φ⟩
    | succ m ih =>
      intro hm
      obtain ⟨vs', h1, h2, h3⟩ := ih (by omega)
      have hlt : m < vs.length := by omega
      obtain ⟨v', g1, g2⟩ := ldCell_sound hw (hget m vs[m] (by simp [hlt])) hl
      refine ⟨vs' ++ [v'], by simp [h1], fun j v hv => ?_, ?_⟩
      · by_cases hj : j < m
        · exact h2 j v (by rwa [List.getElem?_append_left (by omega)] at hv)
        · rw [List.getElem?_append_right (by omega)] at hv
          have hj0 : j - vs'.length = 0 := by
            rcases Nat.eq_zero_or_pos (j - vs'.length) with h | h
            · exact h
            · rw [List.getElem?_eq_none (by simp; omega)] at hv; cases hv
          rw [hj0] at hv
          simp at hv
          subst hv
          have hjm : j = m := by omega
          subst hjm
          have : Addr.add ⟨l.blk, l.off + o, none⟩ j = ⟨l.blk, l.off + (o + j), none⟩ := by
            rw [Addr.add_lit]; simp [Nat.add_assoc]
          rw [this]; exact g1
      · have e : (vs.take (m + 1)).toArray = (vs.take m).toArray.push vs[m] := by
          rw [List.take_succ_eq_append_getElem hlt]; simp
        have e' : (vs' ++ [v']).toArray = vs'.toArray.push v' := by simp
        rw [e, e']
        exact h3.push g2
  obtain ⟨vs', h1, h2, h3⟩ := key n (Nat.le_refl n)
  exact ⟨vs', h1, h2, by rwa [List.take_of_length_le (by omega)] at h3⟩

def ldVar (P : Program) (hp : Tr AObj) (t : TypeId) (b o : Nat) : Option Value :=
  match aggT P t with
  | some true => match szOf P t with
    | some n => (ldCells hp b o n).map fun vs => .agg vs.toArray
    | none => none
  | some false => ldCell hp b o
  | none => none

theorem ldVar_sound {P : Program} {φ : Ren} {hp : Tr AObj} {w : World} (hw : WRel φ hp w) {t : TypeId} {b o : Nat} {v : Value} (h : ldVar P hp t b o = some v) {l : Loc} (hl : φ b = some l) :
    ∃ v', (loadVar t ⟨l.blk, l.off + o, none⟩).run P w = .ok v' w ∧ VRel φ v v' := by
  unfold ldVar at h
  cases ha : aggT P t with
  | none => simp [ha] at h
  | some ag =>
    cases ag with
    | false =>
      simp [ha] at h
      obtain ⟨v', h1, h2⟩ := ldCell_sound hw h hl
      exact ⟨v', by simp [loadVar, run_isAgg ha, h1], h2⟩
    | true =>
      simp [ha] at h
      cases hs : szOf P t with
      | none => simp [hs] at h
      | some n =>
        simp [hs] at h
        obtain ⟨vs, h1, rfl⟩ := h
        obtain ⟨vs', g1, g2, g3⟩ := ldCells_sound hw h1 hl
        refine ⟨.agg vs'.toArray, ?_, .agg g3.1 g3.2⟩
        have := run_loadCells_list (P := P) w ⟨l.blk, l.off + o, none⟩ vs' g2
        rw [g1] at this
        simp [loadVar, run_isAgg ha, run_sizeOf hs, this]

end Go.Proofs.YtkjkoejnicbieaaGreat.AM

/-
  THE ABSTRACT MACHINE, part 0: trees, values up to a renaming of blocks, abstract memory, and how it is related to the model's memory.
  Nothing of a program stands here.
-/
import Derived.Calls
import Derived.Orders
import Derived.LoopN
import Derived.Laws.Sem
import Derived.Laws.World
import Derived.Below
namespace Go.Proofs.YtkjkoejnicbieaaGreat.AM
open Go Go.RowKit

/-! ### Trees with numbers as keys -/
inductive Tr (α : Type) where
  | nil : Tr α
  | node (l : Tr α) (v : Option α) (r : Tr α) : Tr α

def Tr.get {α : Type} : Tr α → Nat → Option α
  | .nil, _ => none
  | .node _ v _, 0 => v
  | .node l _ r, m + 1 => bif m % 2 == 0 then l.get (m / 2) else r.get (m / 2)

def Tr.setF {α : Type} : Nat → Tr α → Nat → Option α → Tr α
  | 0, t, _, _ => t
  | _ + 1, .nil, 0, x => .node .nil x .nil
  | _ + 1, .node l _ r, 0, x => .node l x r
  | d + 1, .nil, m + 1, x => bif m % 2 == 0 then .node (Tr.setF d .nil (m / 2) x) none .nil else .node .nil none (Tr.setF d .nil (m / 2) x)
  | d + 1, .node l v r, m + 1, x => bif m % 2 == 0 then .node (Tr.setF d l (m / 2) x) v r else .node l v (Tr.setF d r (m / 2) x)

def Tr.set {α : Type} (t : Tr α) (n : Nat) (x : Option α) : Tr α := Tr.setF (n + 1) t n x

theorem Tr.get_nil {α : Type} (n : Nat) : (Tr.nil : Tr α).get n = none := by cases n <;> rfl

theorem Tr.get_setF {α : Type} (x : Option α) : ∀ (d n : Nat) (t : Tr α) (m : Nat), n < d → (Tr.setF d t n x).get m = if m = n then x else t.get m := by
  intro d
  induction d with
  | zero => intro n t m h; omega
  | succ d ih =>
    intro n t m h
    cases n with
    | zero =>
      cases t <;> cases m <;> simp [Tr.setF, Tr.get]
    | succ n =>
      have hn : n / 2 < d := by omega
      cases t with
      | nil =>
        cases m with
        | zero => cases hp : (n % 2 == 0) <;> simp [Tr.setF, Tr.get, hp]
        | succ m =>
          cases hp : (n % 2 == 0) <;> cases hq : (m % 2 == 0) <;> simp only [Tr.setF, Tr.get, hp, hq, cond_true, cond_false, ih _ _ _ hn, Tr.get_nil] <;>
            simp at hp hq <;> (try (rw [if_neg (by omega)])) <;> (congr 1; simp; omega)
      | node l v r =>
        cases m with
        | zero => cases hp : (n % 2 == 0) <;> simp [Tr.setF, Tr.get, hp]
        | succ m =>
          cases hp : (n % 2 == 0) <;> cases hq : (m % 2 == 0) <;> simp only [Tr.setF, Tr.get, hp, hq, cond_true, cond_false, ih _ _ _ hn] <;>
            simp at hp hq <;> first | (rw [if_neg (by omega)]; done) | (congr 1; simp; omega)

theorem Tr.get_set {α : Type} (t : Tr α) (n m : Nat) (x : Option α) : (t.set n x).get m = if m = n then x else t.get m :=
  Tr.get_setF x (n + 1) n t m (Nat.lt_succ_self n)

theorem Tr.get_set_same {α : Type} (t : Tr α) (n : Nat) (x : Option α) : (t.set n x).get n = x := by simp [Tr.get_set]
theorem Tr.get_set_ne {α : Type} (t : Tr α) {n m : Nat} (x : Option α) (h : m ≠ n) : (t.set n x).get m = t.get m := by simp [Tr.get_set, h]

/-! ### Where an abstract block lies -/
/-- An abstract block's place in memory: its block, where it begins there, up to where it may grow, and how many cells an element of a row takes. -/
structure Loc where
  blk : Nat
  off : Nat
  fin : Nat
  sz : Nat

abbrev Ren := Nat → Option Loc

def Ren.le (φ ψ : Ren) : Prop := ∀ i l, φ i = some l → ψ i = some l

theorem Ren.le_refl (φ : Ren) : Ren.le φ φ := fun _ _ h => h
theorem Ren.le_trans {φ ψ χ : Ren} (h : Ren.le φ ψ) (k : Ren.le ψ χ) : Ren.le φ χ := fun i l e => k i l (h i l e)

def Ren.put (φ : Ren) (n : Nat) (l : Loc) : Ren := fun i => if i = n then some l else φ i

theorem Ren.le_put {φ : Ren} {n : Nat} {l : Loc} (h : φ n = none) : Ren.le φ (φ.put n l) := by
  intro i x e
  unfold Ren.put
  split
  · rename_i hi; subst hi; simp [h] at e
  · exact e

theorem Ren.put_same (φ : Ren) (n : Nat) (l : Loc) : φ.put n l n = some l := by simp [Ren.put]
theorem Ren.put_ne (φ : Ren) {n i : Nat} (l : Loc) (h : i ≠ n) : φ.put n l i = φ i := by simp [Ren.put, h]

/-- The capacity of a slice that may have more room than is known. -/
def OPEN : Nat := 9223372036854775808

/-- A value of the abstract machine and one of the model's. -/
inductive VRel (φ : Ren) : Value → Value → Prop
  | bool (b : Bool) : VRel φ (.bool b) (.bool b)
  | int (k : IntKind) (n : Int) : VRel φ (.int k n) (.int k n)
  | float (k : FloatKind) (n : Nat) : VRel φ (.float k n) (.float k n)
  | string (s : ByteArray) : VRel φ (.string s) (.string s)
  | pnil : VRel φ (.pointer none) (.pointer none)
  | ptr {b o : Nat} {l : Loc} (h : φ b = some l) : VRel φ (.pointer (some ⟨b, o, none⟩)) (.pointer (some ⟨l.blk, l.off + o, none⟩))
  | snil (n c : Nat) : VRel φ (.slice none n c) (.slice none n c)
  | slice {b o len cap : Nat} {l : Loc} (h : φ b = some l) (hc : cap ≠ OPEN) : VRel φ (.slice (some ⟨b, o, none⟩) len cap) (.slice (some ⟨l.blk, l.off + o, none⟩) len cap)
  | sopen {b o len x c : Nat} {l : Loc} (h : φ b = some l) (hlen : len ≤ c) (hx : l.off ≤ x) (hfin : x + c * l.sz ≤ l.fin) (hexact : 0 < len → x = l.off + o ∧ x + c * l.sz = l.fin) :
      VRel φ (.slice (some ⟨b, o, none⟩) len OPEN) (.slice (some ⟨l.blk, x, none⟩) len c)
  | szero (a a' : Addr) : VRel φ (.slice (some a) 0 0) (.slice (some a') 0 0)
  | mnil : VRel φ (.map none) (.map none)
  | map {r : Nat} {l : Loc} (h : φ r = some l) : VRel φ (.map (some r)) (.map (some l.blk))
  | func (f : FuncId) {as bs cs ds : Array Value} (h1 : as.size = bs.size) (h2 : ∀ i (h : i < as.size) (h' : i < bs.size), VRel φ as[i] bs[i])
      (h3 : cs.size = ds.size) (h4 : ∀ i (h : i < cs.size) (h' : i < ds.size), VRel φ cs[i] ds[i]) : VRel φ (.func (.func f) as cs) (.func (.func f) bs ds)
  | nilFunc : VRel φ .nilFunc .nilFunc
  | iface (t : TypeId) {u v : Value} (h : VRel φ u v) : VRel φ (.iface t u) (.iface t v)
  | nilIface : VRel φ .nilIface .nilIface
  | agg {as bs : Array Value} (h1 : as.size = bs.size) (h2 : ∀ i (h : i < as.size) (h' : i < bs.size), VRel φ as[i] bs[i]) : VRel φ (.agg as) (.agg bs)
  | tuple {as bs : Array Value} (h1 : as.size = bs.size) (h2 : ∀ i (h : i < as.size) (h' : i < bs.size), VRel φ as[i] bs[i]) : VRel φ (.tuple as) (.tuple bs)

theorem VRel.mono {φ ψ : Ren} (hle : Ren.le φ ψ) {u v : Value} (h : VRel φ u v) : VRel ψ u v := by
  induction h with
  | bool b => exact .bool b
  | int k n => exact .int k n
  | float k n => exact .float k n
  | string s => exact .string s
  | pnil => exact .pnil
  | ptr h => exact .ptr (hle _ _ h)
  | snil n c => exact .snil n c
  | slice h hc => exact .slice (hle _ _ h) hc
  | sopen h a b c d => exact .sopen (hle _ _ h) a b c d
  | szero a b => exact .szero a b
  | mnil => exact .mnil
  | map h => exact .map (hle _ _ h)
  | func f h1 _ h3 _ ih2 ih4 => exact .func f h1 ih2 h3 ih4
  | nilFunc => exact .nilFunc
  | iface t _ ih => exact .iface t ih
  | nilIface => exact .nilIface
  | agg h1 _ ih => exact .agg h1 ih
  | tuple h1 _ ih => exact .tuple h1 ih

/-- Arrays of values, place by place. -/
def ARel (φ : Ren) (as bs : Array Value) : Prop := as.size = bs.size ∧ ∀ i (h : i < as.size) (h' : i < bs.size), VRel φ as[i] bs[i]

theorem ARel.mono {φ ψ : Ren} (hle : Ren.le φ ψ) {as bs : Array Value} (h : ARel φ as bs) : ARel ψ as bs := ⟨h.1, fun i a b => (h.2 i a b).mono hle⟩
theorem ARel.nil (φ : Ren) : ARel φ #[] #[] := ⟨rfl, fun i h => by simp at h⟩
theorem ARel.get? {φ : Ren} {as bs : Array Value} (h : ARel φ as bs) {i : Nat} {v : Value} (hv : as[i]? = some v) : ∃ v', bs[i]? = some v' ∧ VRel φ v v' := by
  obtain ⟨hi, rfl⟩ := Array.getElem?_eq_some_iff.1 hv
  have hi' : i < bs.size := h.1 ▸ hi
  exact ⟨bs[i], Array.getElem?_eq_getElem hi', h.2 i hi hi'⟩
theorem ARel.get?_none {φ : Ren} {as bs : Array Value} (h : ARel φ as bs) {i : Nat} (hv : as[i]? = none) : bs[i]? = none := by
  rw [Array.getElem?_eq_none_iff] at *; rw [← h.1]; exact hv
theorem ARel.push {φ : Ren} {as bs : Array Value} (h : ARel φ as bs) {u v : Value} (hv : VRel φ u v) : ARel φ (as.push u) (bs.push v) := by
  refine ⟨by simp [h.1], fun i hi hi' => ?_⟩
  rw [Array.getElem_push, Array.getElem_push]
  have hs := h.1
  simp at hi hi'
  by_cases hlt : i < as.size
  · rw [dif_pos hlt, dif_pos (by omega)]; exact h.2 i hlt (by omega)
  · rw [dif_neg hlt, dif_neg (by omega)]; exact hv
theorem ARel.append {φ : Ren} {as bs cs ds : Array Value} (h : ARel φ as bs) (k : ARel φ cs ds) : ARel φ (as ++ cs) (bs ++ ds) := by
  refine ⟨by simp [h.1, k.1], fun i hi hi' => ?_⟩
  have hs := h.1
  simp at hi hi'
  rw [Array.getElem_append, Array.getElem_append]
  by_cases hlt : i < as.size
  · rw [dif_pos hlt, dif_pos (by omega)]; exact h.2 i hlt (by omega)
  · rw [dif_neg hlt, dif_neg (by omega)]
    have e : i - bs.size = i - as.size := by omega
    simp only [e]
    exact k.2 (i - as.size) (by omega) (by have := k.1; omega)
theorem ARel.set {φ : Ren} {as bs : Array Value} (h : ARel φ as bs) (n : Nat) {u v : Value} (hv : VRel φ u v) : ARel φ (as.setIfInBounds n u) (bs.setIfInBounds n v) := by
  refine ⟨by simp [h.1], fun i hi hi' => ?_⟩
  have hi1 : i < as.size := by simpa using hi
  have hi2 : i < bs.size := by simpa using hi'
  rw [Array.getElem_setIfInBounds hi1, Array.getElem_setIfInBounds hi2]
  by_cases e : n = i
  · rw [if_pos e, if_pos e]; exact hv
  · rw [if_neg e, if_neg e]; exact h.2 i hi1 hi2
theorem ARel.of_list {φ : Ren} {as bs : Array Value} (hl : as.size = bs.size) (h : ∀ (i : Nat) (u v : Value), as[i]? = some u → bs[i]? = some v → VRel φ u v) : ARel φ as bs :=
  ⟨hl, fun i a b => h i _ _ (Array.getElem?_eq_getElem a) (Array.getElem?_eq_getElem b)⟩
theorem ARel.extract {φ : Ren} {as bs : Array Value} (h : ARel φ as bs) (i j : Nat) : ARel φ (as.extract i j) (bs.extract i j) := by
  refine ⟨by simp [h.1], fun k hk hk' => ?_⟩
  rw [Array.getElem_extract, Array.getElem_extract]
  exact h.2 _ _ _
theorem ARel.single {φ : Ren} {u v : Value} (h : VRel φ u v) : ARel φ #[u] #[v] := by
  have := (ARel.nil φ).push h; simpa using this

theorem VRel.cells {φ : Ren} {u v : Value} (h : VRel φ u v) : ARel φ u.cells v.cells := by
  cases h <;> first | exact ⟨‹_›, ‹_›⟩ | (refine ARel.single ?_; constructor <;> assumption) | exact ARel.single (by constructor)

theorem VRel.oneCell {φ : Ren} {u v : Value} (h : VRel φ u v) : v.oneCell' = u.oneCell' := by
  cases h <;> rfl

/-! ### Abstract memory -/
inductive AObj where
  /-- cells; how many an element of a row takes; from the cell 'fz' on none is frozen; 'ro': they are never written; 'hd': they lie at the head of their block -/
  | cells (c : List Value) (elem : TypeId) (sz fz : Nat) (ro hd : Bool)
  /-- a map: its entries, and how many have ever been put in -/
  | map (es : List (Value × Value)) (clock : Nat)
  /-- a range over a map: which keys were seen -/
  | iter (m : Option Nat) (clock : Nat) (seen : List Value)
  | siter (s : ByteArray) (pos : Nat)
  deriving Inhabited

def AObj.ro : AObj → Bool
  | .cells _ _ _ _ r _ => r
  | _ => false

/-- Two lists, place by place. -/
inductive All2 {α β : Type} (R : α → β → Prop) : List α → List β → Prop
  | nil : All2 R [] []
  | cons {a b as bs} (h : R a b) (t : All2 R as bs) : All2 R (a :: as) (b :: bs)

theorem All2.mono {α β : Type} {R S : α → β → Prop} (hRS : ∀ a b, R a b → S a b) {as : List α} {bs : List β} (h : All2 R as bs) : All2 S as bs := by
  induction h with
  | nil => exact .nil
  | cons h _ ih => exact .cons (hRS _ _ h) ih

/-- The entries of a map of the model: in whatever order, each with its own stamp below the clock. -/
def MRel (φ : Ren) (es : List (Value × Value)) (clock : Nat) (es' : List MapEntry) : Prop :=
  ∃ p : List MapEntry, p.Perm es' ∧ All2 (fun (e : Value × Value) (m : MapEntry) => m.key = e.1 ∧ VRel φ e.2 m.val) es p ∧
    (p.map (·.born)).Nodup ∧ (∀ m ∈ p, m.born < clock) ∧ (es.map (·.1)).Nodup

def ORel (φ : Ren) (o : AObj) (l : Loc) (w : World) : Prop :=
  match o with
  | .cells c elem sz fz _ hd => ∃ c' fr, w.heap[l.blk]? = some (.cells c' elem fr) ∧ l.sz = sz ∧ (hd = true → l.off = 0) ∧ l.fin ≤ c'.size ∧ l.off + c.length ≤ l.fin ∧
      (∀ i v, c[i]? = some v → ∃ v', c'[l.off + i]? = some v' ∧ VRel φ v v') ∧ (fr.1 ≠ fr.2 → fr.2 ≤ l.off + fz)
  | .map es clock => ∃ es', w.heap[l.blk]? = some (.map es' clock) ∧ MRel φ es clock es'.toList
  | .iter m clock seen => l.off = 0 ∧ ∃ m' seen', w.heap[l.blk]? = some (.mapIter m' clock seen' clock) ∧
      (match m with
       | none => m' = none
       | some r => ∃ lm, φ r = some lm ∧ m' = some lm.blk ∧ ∃ es ck, w.heap[lm.blk]? = some (.map es ck) ∧ clock ≤ ck ∧
           (ck = clock → ∀ e ∈ es.toList, (e.born ∈ seen' ↔ e.key ∈ seen)) ∧
           (∀ k rest, seen = k :: rest → ∃ b, seen'.back? = some b ∧ (ck = clock → ∀ e ∈ es.toList, e.key = k → e.born = b)))
  | .siter s pos => l.off = 0 ∧ w.heap[l.blk]? = some (.stringIter s pos)

/-- Abstract memory and the model's, as far as places are given. -/
structure WRel (φ : Ren) (hp : Tr AObj) (w : World) : Prop where
  obj : ∀ i o l, hp.get i = some o → φ i = some l → ORel φ o l w
  apart : ∀ i j oi oj li lj, i ≠ j → hp.get i = some oi → hp.get j = some oj → φ i = some li → φ j = some lj → li.blk = lj.blk → oi.ro = true ∧ oj.ro = true

end Go.Proofs.YtkjkoejnicbieaaGreat.AM

/-
  THE ABSTRACT MACHINE, part 17: operations that do not look at the world, and operations that leave it as it is.
-/
import Derived.Test.YtkjkoejnicbieaaGreatAm16
import Derived.Orders
namespace Go.Proofs.YtkjkoejnicbieaaGreat.AM
open Go Go.RowKit

/-! ### Two laws of a run -/
/-- What ends well leaves the world as it was. -/
def Still {α : Type} (P : Program) (s : Sem α) : Prop := ∀ w x w', s.run P w = .ok x w' → w' = w

/-- What ends well in one world ends so in every world, and leaves it as it was. -/
def Free {α : Type} (P : Program) (s : Sem α) : Prop := ∀ w x w', s.run P w = .ok x w' → w' = w ∧ ∀ v, s.run P v = .ok x v

/-- What never ends well. -/
def Dead {α : Type} (P : Program) (s : Sem α) : Prop := ∀ w x w', s.run P w ≠ .ok x w'

section
variable {α β : Type} {P : Program}

theorem Free.still {s : Sem α} (h : Free P s) : Still P s := fun w x w' e => (h w x w' e).1
theorem Dead.free {s : Sem α} (h : Dead P s) : Free P s := fun w x w' e => absurd e (h w x w')
theorem Dead.still {s : Sem α} (h : Dead P s) : Still P s := h.free.still

theorem Still.pure (x : α) : Still P (Pure.pure x : Sem α) := fun w y w' e => by simp at e; exact e.2.symm
theorem Free.pure (x : α) : Free P (Pure.pure x : Sem α) := fun w y w' e => by simp at e; exact ⟨e.2.symm, fun v => by simp [e.1]⟩

theorem bind_ok {s : Sem α} {f : α → Sem β} {w w' : World} {y : β} (h : (s >>= f).run P w = .ok y w') : ∃ x w1, s.run P w = .ok x w1 ∧ (f x).run P w1 = .ok y w' := by
  rw [Sem.run_bind] at h
  cases hs : s.run P w with
  | ok x w1 => rw [hs] at h; exact ⟨x, w1, rfl, h⟩
  | halt e w1 => rw [hs] at h; cases h

theorem Still.bind {s : Sem α} {f : α → Sem β} (h : Still P s) (hf : ∀ x, Still P (f x)) : Still P (s >>= f) := by
  intro w y w' e
  obtain ⟨x, w1, h1, h2⟩ := bind_ok e
  rw [hf x _ _ _ h2, h _ _ _ h1]

theorem Free.bind {s : Sem α} {f : α → Sem β} (h : Free P s) (hf : ∀ x, Free P (f x)) : Free P (s >>= f) := by
  intro w y w' e
  obtain ⟨x, w1, h1, h2⟩ := bind_ok e
  obtain ⟨a1, a2⟩ := h _ _ _ h1
  obtain ⟨b1, b2⟩ := hf x _ _ _ h2
  exact ⟨by rw [b1, a1], fun v => by rw [Sem.run_bind, a2 v]; exact b2 v⟩

theorem Dead.bind {s : Sem α} {f : α → Sem β} (h : Dead P s) : Dead P (s >>= f) := by
  intro w y w' e
  obtain ⟨x, w1, h1, h2⟩ := bind_ok e
  exact h _ _ _ h1

theorem Dead.after {s : Sem α} {f : α → Sem β} (h : ∀ x, Dead P (f x)) : Dead P (s >>= f) := by
  intro w y w' e
  obtain ⟨x, w1, h1, h2⟩ := bind_ok e
  exact h _ _ _ _ h2

theorem Dead.halt (h : Halt) : Dead P (.halt h : Sem α) := fun w x w' e => by simp [Sem.run] at e
theorem dead_stuck (s : String) : Dead P (stuck s : Sem α) := Dead.halt _
theorem dead_unsupported (u : Unsupported) : Dead P (unsupported u : Sem α) := Dead.halt _
theorem dead_goPanic (v : Value) : Dead P (goPanic v : Sem α) := Dead.halt _
theorem free_program : Free P program := fun w x w' e => by
  rw [run_program] at e
  cases e
  exact ⟨rfl, fun v => run_program _ _⟩

theorem dead_runtimePanic (r : RuntimeError) : Dead P (runtimePanic r : Sem α) := by
  unfold runtimePanic
  refine Dead.after fun p => ?_
  cases r <;> dsimp only
  all_goals first
    | exact dead_goPanic _
    | exact Dead.after fun _ => dead_goPanic _
    | exact Dead.after fun _ => Dead.after fun _ => dead_goPanic _
    | exact Dead.after fun _ => Dead.after fun _ => Dead.after fun _ => dead_goPanic _

theorem dead_boundsPanic (k : IntKind) (x y : Int) (c : BoundsCode) : Dead P (boundsPanic k x y c : Sem α) := by
  unfold boundsPanic
  dsimp only
  split <;> exact Dead.after fun _ => dead_runtimePanic _

theorem free_underlying (t : TypeId) : Free P (underlying t) := by
  unfold underlying
  refine free_program.bind fun p => ?_
  split
  · exact Free.pure _
  · exact (dead_stuck _).free

theorem free_typeInfo (t : TypeId) : Free P (typeInfo t) := by
  unfold typeInfo
  refine free_program.bind fun p => ?_
  split
  · exact Free.pure _
  · exact (dead_stuck _).free

theorem free_sizeOf (t : TypeId) : Free P (sizeOf t) := (free_typeInfo t).bind fun _ => Free.pure _
theorem free_isAgg (t : TypeId) : Free P (isAgg t) := by
  unfold isAgg
  refine (free_underlying t).bind fun d => ?_
  split <;> exact Free.pure _

theorem free_asIntOf (v : Value) : Free P (asIntOf v) := by
  unfold asIntOf
  split
  · exact Free.pure _
  · exact (dead_unsupported _).free
  · exact (dead_stuck _).free
theorem free_asInt (v : Value) : Free P (asInt v) := (free_asIntOf v).bind fun _ => Free.pure _
theorem free_asBool (v : Value) : Free P (asBool v) := by
  unfold asBool
  split
  · exact Free.pure _
  · exact (dead_stuck _).free
theorem free_asAgg (v : Value) : Free P (asAgg v) := by
  unfold asAgg
  split
  · exact Free.pure _
  · exact (dead_stuck _).free
theorem free_asAddr (v : Value) : Free P (asAddr v) := by
  unfold asAddr
  split
  · exact Free.pure _
  · exact (dead_runtimePanic _).free
  · exact (dead_stuck _).free
theorem free_sureAddr (v : Value) : Free P (Instr.sureAddr v) := by
  unfold Instr.sureAddr
  split
  · exact Free.pure _
  · exact (dead_stuck _).free
theorem free_part (t : TypeId) (cs : Array Value) (off : Nat) : Free P (part t cs off) := by
  unfold part
  refine (free_isAgg t).bind fun b => ?_
  split
  · exact (free_sizeOf t).bind fun _ => Free.pure _
  · split
    · exact Free.pure _
    · exact (dead_stuck _).free

theorem still_shape (r : Nat) : Still P (shape r) := fun w x w' e => by
  have : (shape r).run P w = .ok (w.shape? r) w := rfl
  rw [this] at e; cases e; rfl

theorem still_load (a : Addr) : Still P (load a) := by
  intro w x w' e
  rw [run_load] at e
  split at e
  · cases e; rfl
  · split at e
    · cases e; rfl
    · cases e

theorem still_loadCellsFrom (a : Addr) : ∀ (n i : Nat) (acc : Array Value), Still P (loadCellsFrom a i n acc) := by
  intro n
  induction n with
  | zero => intro i acc; exact Still.pure _
  | succ n ih => intro i acc; exact (still_load _).bind fun v => ih _ _

theorem still_loadVar (t : TypeId) (a : Addr) : Still P (loadVar t a) := by
  unfold loadVar
  refine (free_isAgg t).still.bind fun b => ?_
  split
  · exact ((free_sizeOf t).still.bind fun n => (still_loadCellsFrom a n 0 #[]).bind fun _ => Still.pure _)
  · exact still_load a

theorem free_sliceBound (x : Value) (y : Nat) (c : BoundsCode) : Free P (Instr.sliceBound x y c) := by
  unfold Instr.sliceBound
  refine (free_asIntOf x).bind fun r => ?_
  obtain ⟨k, i⟩ := r
  dsimp only
  split
  · exact Free.pure _
  · exact (dead_boundsPanic _ _ _ _).free

theorem free_sliceBounds (b : Bool) (n c : Nat) (lo hi mx : Option Value) : Free P (Instr.sliceBounds b n c lo hi mx) := by
  unfold Instr.sliceBounds
  dsimp only
  repeat' first
    | exact Free.pure _
    | exact (dead_stuck _).free
    | exact ((dead_stuck _).bind).free
    | exact free_sliceBound _ _ _
    | refine Free.bind ?_ (fun _ => ?_)
    | split

theorem free_slice (t : TypeId) (x : Value) (lo hi mx : Option Value) : Free P (Instr.slice t x lo hi mx) := by
  unfold Instr.slice
  refine (free_underlying t).bind fun d => ?_
  split
  · split
    · exact ((dead_stuck _).bind).free
    · exact (free_sliceBounds _ _ _ _ _ _).bind fun _ => Free.pure _
  · exact (free_sliceBounds _ _ _ _ _ _).bind fun _ => (free_sizeOf _).bind fun _ => Free.pure _
  · refine (free_asAddr _).bind fun a => (free_underlying _).bind fun d => ?_
    split
    · exact (free_sliceBounds _ _ _ _ _ _).bind fun _ => (free_sizeOf _).bind fun _ => Free.pure _
    · exact (dead_stuck _).free
  · exact (dead_stuck _).free

theorem free_sliceAt (t : TypeId) (x : Value) (lo hi mx : Option Value) : Free P (Instr.sliceAt t x lo hi mx) := by
  unfold Instr.sliceAt
  refine (free_underlying t).bind fun d => ?_
  split
  · exact (free_sureAddr _).bind fun a => (free_sliceBounds _ _ _ _ _ _).bind fun _ => (free_sizeOf _).bind fun _ => Free.pure _
  · exact free_slice _ _ _ _ _

theorem free_index (t : TypeId) (x i : Value) : Free P (Instr.index t x i) := by
  unfold Instr.index
  refine (free_asIntOf i).bind fun r => (free_underlying t).bind fun d => ?_
  obtain ⟨k, i⟩ := r
  dsimp only
  split
  · split
    · exact (free_sizeOf _).bind fun _ => free_part _ _ _
    · exact (dead_boundsPanic _ _ _ _).free
  · split
    · exact Free.pure _
    · exact (dead_boundsPanic _ _ _ _).free
  · exact (dead_stuck _).free

theorem free_field (t : TypeId) (x : Value) (f : Nat) : Free P (Instr.field t x f) := by
  unfold Instr.field
  refine (free_underlying t).bind fun d => ?_
  split
  · split
    · exact (free_asAgg x).bind fun cs => free_part _ _ _
    · exact (dead_stuck _).free
  · exact (dead_stuck _).free

theorem free_extract (x : Value) (i : Nat) : Free P (Instr.extract x i) := by
  unfold Instr.extract
  split
  · split
    · exact Free.pure _
    · exact (dead_stuck _).free
  · exact (dead_stuck _).free

theorem free_indexAt (t : TypeId) (x i : Value) : Free P (Instr.indexAt t x i) := by
  unfold Instr.indexAt
  dsimp only
  repeat' first
    | exact Free.pure _
    | exact (dead_stuck _).free
    | exact ((dead_stuck _).bind).free
    | exact (dead_unsupported _).free
    | exact (dead_boundsPanic _ _ _ _).free
    | exact free_asIntOf _
    | exact free_underlying _
    | exact free_sureAddr _
    | exact free_sizeOf _
    | refine Free.bind ?_ (fun _ => ?_)
    | split

/-- Does no field of this struct lie at an address that the layout must be asked for? -/
def bigField (P : Program) (t : TypeId) (f : Nat) : Bool :=
  match P.underlying t with
  | some (.struct fs) => match fs[f]? with
    | some x => match szOf P x.type with
      | some (_ + 1) => true
      | _ => false
    | none => false
  | _ => false

theorem free_fieldAt {t : TypeId} {f : Nat} (h : bigField P t f = true) (x : Value) : Free P (Instr.fieldAt t x f) := by
  unfold bigField at h
  split at h
  · rename_i fs hu
    split at h
    · rename_i fl hf
      split at h
      · rename_i n hs
        have e : ∀ w, (Instr.fieldAt t x f).run P w = (do let a ← Instr.sureAddr x; pure (.pointer (some (a.add fl.offset))) : Sem Value).run P w := by
          intro w
          unfold Instr.fieldAt fieldPlace
          simp only [Sem.run_bind, run_underlying hu, Result.andThen_ok, hf]
          cases hx : (Instr.sureAddr x).run P w with
          | ok a w1 => simp [run_sizeOf hs]
          | halt hh w1 => rfl
        have hfree : Free P (do let a ← Instr.sureAddr x; pure (.pointer (some (a.add fl.offset))) : Sem Value) := (free_sureAddr x).bind fun _ => Free.pure _
        intro w y w' hr
        rw [e] at hr
        obtain ⟨a, b⟩ := hfree _ _ _ hr
        exact ⟨a, fun v => by rw [e]; exact b v⟩
      · cases h
    · cases h
  · cases h

theorem free_unary (op : UnOp) (x : Value) : Free P (Op.unary op x) := by
  unfold Op.unary Op.intArith Op.intBits
  dsimp only
  repeat' first
    | exact Free.pure _
    | exact (dead_stuck _).free
    | exact (dead_unsupported _).free
    | split

theorem free_intCmp (op : BinOp) (x y : Int) : Free P (Op.intCmp op x y) := by
  unfold Op.intCmp
  repeat' first
    | exact Free.pure _
    | exact (dead_stuck _).free
    | split

theorem free_stringOp (op : BinOp) (x y : ByteArray) : Free P (Op.stringOp op x y) := by
  unfold Op.stringOp
  dsimp only
  repeat' first
    | exact Free.pure _
    | exact (dead_stuck _).free
    | exact (dead_unsupported _).free
    | split

theorem free_zeroValue (t : TypeId) : Free P (zeroValue t) := by
  unfold zeroValue
  refine (free_typeInfo t).bind fun i => ?_
  split
  · exact Free.pure _
  · first
      | exact (dead_stuck _).free
      | exact (dead_unsupported _).free

theorem free_listMapM {γ δ : Type} {f : γ → Sem δ} (hf : ∀ x, Free P (f x)) : ∀ l : List γ, Free P (l.mapM f)
  | [] => Free.pure _
  | x :: xs => by
    rw [List.mapM_cons]
    exact (hf x).bind fun _ => (free_listMapM hf xs).bind fun _ => Free.pure _

theorem free_mapM {γ δ : Type} {f : γ → Sem δ} (hf : ∀ x, Free P (f x)) (a : Array γ) : Free P (a.mapM f) := by
  rw [Array.mapM_eq_mapM_toList, map_eq_pure_bind]
  exact (free_listMapM hf _).bind fun _ => Free.pure _

theorem free_build (t : TypeId) (ps : Array (Nat × Value)) : Free P (Instr.build t ps) := by
  unfold Instr.build
  refine (free_zeroValue t).bind fun z => (free_underlying t).bind fun d => ?_
  split
  · refine (free_mapM (fun f => (free_sizeOf _).bind fun _ => Free.pure _) _).bind fun _ => ?_
    split
    · exact Free.pure _
    · exact (dead_stuck _).free
  · refine (free_sizeOf _).bind fun _ => ?_
    split
    · exact Free.pure _
    · exact (dead_stuck _).free
  · exact (dead_stuck _).free

theorem free_makeInterface (t : TypeId) (x : Value) : Free P (Instr.makeInterface t x) := by
  unfold Instr.makeInterface
  refine (free_underlying t).bind fun d => ?_
  split
  · exact (dead_stuck _).free
  · exact Free.pure _

/-! ### What is read stays, however many blocks are added -/
/-- The blocks that stood stand as they were. -/
def Pre (w w' : World) : Prop := w.heap.size ≤ w'.heap.size ∧ ∀ k, k < w.heap.size → w'.heap[k]? = w.heap[k]?

theorem Pre.refl (w : World) : Pre w w := ⟨Nat.le_refl _, fun _ _ => rfl⟩
theorem Pre.trans {u v w : World} (a : Pre u v) (b : Pre v w) : Pre u w :=
  ⟨Nat.le_trans a.1 b.1, fun k hk => (b.2 k (Nat.lt_of_lt_of_le hk a.1)).trans (a.2 k hk)⟩
theorem Pre.get {w w' : World} (h : Pre w w') {k : Nat} {o : Obj} (hk : w.heap[k]? = some o) : w'.heap[k]? = some o := by
  have : k < w.heap.size := by
    rcases Nat.lt_or_ge k w.heap.size with h1 | h1
    · exact h1
    · simp [Array.getElem?_eq_none h1] at hk
  rw [h.2 k this, hk]
theorem Pre.cell {w w' : World} (h : Pre w w') {a : Addr} {v : Value} (hc : w.cell? a = some v) : w'.cell? a = some v := by
  unfold World.cell? at *
  cases hb : w.heap[a.block]? with
  | none => rw [hb] at hc; cases hc
  | some o => rw [h.get hb]; rw [hb] at hc; exact hc
theorem Pre.alloc (w : World) (x : Obj) : Pre w (w.alloc x) := ⟨by show _ ≤ (w.heap.push x).size; simp, fun k hk => heap_alloc_lt w x hk⟩

/-- What ends well, ends so in every world in which the blocks stand as they were. -/
def Stable {α : Type} (P : Program) (s : Sem α) : Prop := ∀ w x w', s.run P w = .ok x w' → w' = w ∧ ∀ v, Pre w v → s.run P v = .ok x v

theorem Free.stable {s : Sem α} (h : Free P s) : Stable P s := fun w x w' e => ⟨(h w x w' e).1, fun v _ => (h w x w' e).2 v⟩
theorem Stable.bind {s : Sem α} {f : α → Sem β} (h : Stable P s) (hf : ∀ x, Stable P (f x)) : Stable P (s >>= f) := by
  intro w y w' e
  obtain ⟨x, w1, h1, h2⟩ := bind_ok e
  obtain ⟨a1, a2⟩ := h _ _ _ h1
  subst a1
  obtain ⟨b1, b2⟩ := hf x _ _ _ h2
  exact ⟨b1, fun v hv => by rw [Sem.run_bind, a2 v hv]; exact b2 v hv⟩

theorem stable_getObj (r : Nat) : Stable P (getObj r) := by
  intro w x w' e
  have hr : ∀ w, (getObj r).run P w = match w.heap[r]? with
    | some (.cells ..) => .halt (.stuck "getObj: a row of cells") w
    | some o => .ok o w
    | none => .halt (.stuck "getObj: no such block") w := fun w => by
      show Sem.run P (.getObj r .pure) w = _
      simp only [Sem.run]
      cases w.heap[r]? with
      | none => rfl
      | some o => cases o <;> rfl
  rw [hr] at e
  cases hb : w.heap[r]? with
  | none => rw [hb] at e; cases e
  | some o =>
    rw [hb] at e
    cases o <;> simp only [reduceCtorEq, Result.ok.injEq] at e
    all_goals
      obtain ⟨rfl, rfl⟩ := e
      exact ⟨rfl, fun v hv => by rw [hr, hv.get hb]⟩

theorem loadCells_stable {w w' : World} (hpre : Pre w w') (a : Addr) : ∀ (n i : Nat) (acc r : Array Value), (∀ j, j < n → (w.cell? (a.add (i + j))).isSome = true) →
    (loadCellsFrom a i n acc).run P w = .ok r w → (loadCellsFrom a i n acc).run P w' = .ok r w' := by
  intro n
  induction n with
  | zero => intro i acc r _ h; simp [loadCellsFrom] at h ⊢; exact h
  | succ n ih =>
    intro i acc r hs h
    simp only [loadCellsFrom, Sem.run_bind, run_load] at h ⊢
    obtain ⟨v, hv⟩ := Option.isSome_iff_exists.1 (hs 0 (Nat.succ_pos _))
    rw [Nat.add_zero] at hv
    simp only [hv, hpre.cell hv, Result.andThen_ok] at h ⊢
    exact ih _ _ _ (fun j hj => by rw [Nat.add_assoc, Nat.add_comm 1 j]; exact hs (j + 1) (by omega)) h

theorem stable_len (ts : Array TypeId) (ty : TypeId) (args : Array Value) : Stable P (Builtin.len_ ts ty args) := by
  unfold Builtin.len_
  repeat' first
    | exact (Free.pure _).stable
    | exact (dead_stuck _).free.stable
    | exact ((dead_stuck _).bind).free.stable
    | exact (free_underlying _).stable
    | exact stable_getObj _
    | refine Stable.bind ?_ (fun _ => ?_)
    | split

theorem stable_cap (ts : Array TypeId) (ty : TypeId) (args : Array Value) : Stable P (Builtin.cap_ ts ty args) := by
  unfold Builtin.cap_
  repeat' first
    | exact (Free.pure _).stable
    | exact (dead_stuck _).free.stable
    | exact ((dead_stuck _).bind).free.stable
    | exact (free_underlying _).stable
    | exact stable_getObj _
    | refine Stable.bind ?_ (fun _ => ?_)
    | split
end
end Go.Proofs.YtkjkoejnicbieaaGreat.AM

/-
  THE ABSTRACT MACHINE AT SYMBOLIC STATES, part 1: what code, operations and calls lead to, as predicates; their rules.
-/
import Derived.Test.YtkjkoejnicbieaaGreatAm21
namespace Go.Proofs.YtkjkoejnicbieaaGreat.AM
open Go Go.RowKit

/-! ### Less is known -/
structure Wk (st st0 : St) : Prop where
  tm : ∀ t v, st0.tm.get t = some v → st.tm.get t = some v
  hp : ∀ i o, st0.hp.get i = some o → st.hp.get i = some o
  nx : st.nx ≤ st0.nx
  df : st0.df = st.df

theorem Wk.refl (st : St) : Wk st st := ⟨fun _ _ h => h, fun _ _ h => h, Nat.le_refl _, rfl⟩
theorem Wk.trans {a b c : St} (h : Wk a b) (k : Wk b c) : Wk a c :=
  ⟨fun t v e => h.tm t v (k.tm t v e), fun i o e => h.hp i o (k.hp i o e), Nat.le_trans h.nx k.nx, k.df.trans h.df⟩

theorem Ext.sub {φ : Ren} {hp hp0 : Tr AObj} {w : World} (h : ∀ i o, hp0.get i = some o → hp.get i = some o) : Ext φ hp w φ hp0 w :=
  ⟨Ren.le_refl _, rfl, rfl, rfl, Nat.le_refl _, fun _ _ _ => rfl, fun i o l h1 h2 => .inr ⟨i, o, l, h i o h1, h2, rfl, id⟩⟩

theorem SRel.wk {G nt : Nat} {φ : Ren} {st st0 : St} {a : Act} {w : World} (h : SRel G nt φ st a w) (k : Wk st st0) : SRel G nt φ st0 a w :=
  ⟨h.g, fun t v e => h.t t v (k.tm t v e), h.h.sub k.hp, fun i hi => Nat.lt_of_lt_of_le (h.b i hi) k.nx, h.n, by rw [k.df]; exact h.d⟩

/-- Is this the order in which the machine takes them? -/
def orderOk (P : Program) (ops : Array Oper) : List (Nat × Bool) → Array Bool → Bool
  | [], listed => match rdy ops listed with
    | [] => true
    | _ :: _ => false
  | (i, b) :: is, listed => (match (rdy ops listed).find? (canFree P ops listed) with
    | some j => b && Nat.beq i j
    | none => match (rdy ops listed).find? (canStable ops listed) with
      | some j => b && Nat.beq i j
      | none => match rdy ops listed with
        | [j] => !b && Nat.beq i j
        | _ => false) && orderOk P ops is (listed.setIfInBounds i true)


/-- What was related before, under fewer numbers, is so still. -/
theorem VRel.back {φ ψ : Ren} (hle : Ren.le φ ψ) {v v0 : Value} (h : VRel φ v v0) : ∀ {v' : Value}, VRel ψ v v' → VRel φ v v' := by
  have hopen : OPEN ≠ 0 := by unfold OPEN; decide
  induction h with
  | bool b => intro v' h; cases h; exact .bool b
  | int k n => intro v' h; cases h; exact .int k n
  | float k n => intro v' h; cases h; exact .float k n
  | string s => intro v' h; cases h; exact .string s
  | pnil => intro v' h; cases h; exact .pnil
  | ptr hl =>
    intro v' h
    cases h with
    | ptr h2 => rw [hle _ _ hl] at h2; cases h2; exact .ptr hl
  | snil n c => intro v' h; cases h; exact .snil n c
  | slice hl hc =>
    intro v' h
    cases h with
    | slice h2 _ => rw [hle _ _ hl] at h2; cases h2; exact .slice hl hc
    | szero a a' => exact .szero _ _
    | sopen => exact absurd rfl hc
  | sopen hl h1 h2 h3 h4 =>
    intro v' h
    cases h with
    | slice _ hc => exact absurd rfl hc
    | sopen k1 k2 k3 k4 k5 => rw [hle _ _ hl] at k1; cases k1; exact .sopen hl k2 k3 k4 k5
  | szero a a' =>
    intro v' h
    cases h with
    | slice _ _ => exact .szero _ _
    | szero _ _ => exact .szero _ _
  | mnil => intro v' h; cases h; exact .mnil
  | map hl =>
    intro v' h
    cases h with
    | map h2 => rw [hle _ _ hl] at h2; cases h2; exact .map hl
  | func f h1 _ h3 _ i2 i4 =>
    intro v' h
    cases h with
    | func _ k1 k2 k3 k4 => exact .func f k1 (fun i hi hi' => i2 i hi (by omega) (k2 i hi hi')) k3 (fun i hi hi' => i4 i hi (by omega) (k4 i hi hi'))
  | nilFunc => intro v' h; cases h; exact .nilFunc
  | iface t _ ih =>
    intro v' h
    cases h with
    | iface _ h2 => exact .iface t (ih h2)
  | nilIface => intro v' h; cases h; exact .nilIface
  | agg h1 _ ih =>
    intro v' h
    cases h with
    | agg k1 k2 => exact .agg k1 fun i hi hi' => ih i hi (by omega) (k2 i hi hi')
  | tuple h1 _ ih =>
    intro v' h
    cases h with
    | tuple k1 k2 => exact .tuple k1 fun i hi hi' => ih i hi (by omega) (k2 i hi hi')

/-! ### Code -/
def EndW (G nt : Nat) (φ : Ren) (hp : Tr AObj) (w : World) (Q : AEx → St → Prop) (e : Exit) (a' : Act) (w' : World) : Prop :=
  ∃ x st', Q x st' ∧ e = x.to ∧ ∃ φ', Ext φ hp w φ' st'.hp w' ∧ SRel G nt φ' st' a' w'

structure AW (P : Program) (G nt : Nat) (c : Code) (st : St) (Q : AEx → St → Prop) : Prop where
  run : ∀ (φ : Ren) (a : Act) (w : World), SRel G nt φ st a w → c.wp P (EndW G nt φ st.hp w Q) a w

theorem EndW.trans {G nt : Nat} {φ ψ : Ren} {hp hp2 : Tr AObj} {w w2 : World} {Q Q' : AEx → St → Prop} {e : Exit} {a' : Act} {w' : World} (h : EndW G nt ψ hp2 w2 Q e a' w') (hx : Ext φ hp w ψ hp2 w2) (hq : ∀ x s, Q x s → Q' x s) : EndW G nt φ hp w Q' e a' w' := by
  obtain ⟨x, s, h1, h2, φ', h3, h4⟩ := h
  exact ⟨x, s, hq x s h1, h2, φ', hx.trans h3, h4⟩

theorem EndW.panic {G nt : Nat} {φ : Ren} {hp : Tr AObj} {w : World} {Q : AEx → St → Prop} {c : List PanicEntry} {a' : Act} {w' : World} (h : EndW G nt φ hp w Q (.panic c) a' w') : False := by
  obtain ⟨x, _, _, e, _⟩ := h
  cases x <;> cases e

/-- Behind the first of two codes. -/
def thenW (P : Program) (G nt : Nat) (b : Code) (Q : AEx → St → Prop) : AEx → St → Prop
  | .normal, s => AW P G nt b s Q
  | x, s => Q x s

/-- At the end of a block. -/
def blkW (id : Nat) (Q : AEx → St → Prop) : AEx → St → Prop
  | .exit i, s => bif Nat.beq i id then Q .normal s else Q (.exit i) s
  | x, s => Q x s

section
variable {P : Program} {G nt : Nat} {Q : AEx → St → Prop} {st : St}

theorem aw_mono {c : Code} {Q' : AEx → St → Prop} (h : AW P G nt c st Q) (hq : ∀ x s, Q x s → Q' x s) : AW P G nt c st Q' :=
  ⟨fun φ a w hs => wp_mono (h.run φ a w hs) fun _ _ _ he => he.trans (Ext.refl _ _ _) hq⟩

theorem aw_wk {c : Code} {st0 : St} (k : Wk st st0) (h : AW P G nt c st0 Q) : AW P G nt c st Q :=
  ⟨fun φ a w hs => wp_mono (h.run φ a w (hs.wk k)) fun _ _ _ he => he.trans (Ext.sub k.hp) fun _ _ h => h⟩

theorem aw_here (x : AEx) (h : Q x st) {φ : Ren} {a : Act} {w : World} (hs : SRel G nt φ st a w) : EndW G nt φ st.hp w Q x.to a w :=
  ⟨x, st, h, rfl, φ, Ext.refl _ _ _, hs⟩

theorem aw_skip (h : Q .normal st) : AW P G nt .skip st Q := ⟨fun _ _ _ hs => wp_skip (aw_here .normal h hs)⟩
theorem aw_label {l : Nat} (h : Q .normal st) : AW P G nt (.label l) st Q := ⟨fun _ _ _ hs => wp_label (aw_here .normal h hs)⟩
theorem aw_ret (h : Q .ret st) : AW P G nt .ret st Q := ⟨fun _ _ _ hs => wp_ret (aw_here .ret h hs)⟩
theorem aw_exit {id : Nat} (h : Q (.exit id) st) : AW P G nt (.exit id) st Q := ⟨fun _ _ _ hs => wp_exit (aw_here (.exit id) h hs)⟩
theorem aw_goto {l : Nat} (h : Q (.goto l) st) : AW P G nt (.goto l) st Q := ⟨fun _ _ _ hs => wp_goto (aw_here (.goto l) h hs)⟩

theorem aw_seq {a b : Code} (h : AW P G nt a st (thenW P G nt b Q)) : AW P G nt (.seq a b) st Q := by
  constructor
  intro φ ac w hs
  refine wp_seq (wp_mono (h.run φ ac w hs) fun e a' w' he => ?_)
  obtain ⟨x, s, h1, rfl, φ', h3, h4⟩ := he
  cases x with
  | normal => exact wp_mono (AW.run h1 φ' a' w' h4) fun _ _ _ he => he.trans h3 fun _ _ h => h
  | ret => exact ⟨.ret, s, h1, rfl, φ', h3, h4⟩
  | exit id => exact ⟨.exit id, s, h1, rfl, φ', h3, h4⟩
  | goto l => exact ⟨.goto l, s, h1, rfl, φ', h3, h4⟩

theorem aw_block {id : Nat} {b : Code} (h : AW P G nt b st (blkW id Q)) : AW P G nt (.block id b) st Q := by
  constructor
  intro φ ac w hs
  refine wp_block (wp_mono (h.run φ ac w hs) fun e a' w' he => ?_)
  obtain ⟨x, s, h1, rfl, φ', h3, h4⟩ := he
  cases x with
  | normal => exact ⟨.normal, s, h1, rfl, φ', h3, h4⟩
  | ret => exact ⟨.ret, s, h1, rfl, φ', h3, h4⟩
  | goto l => exact ⟨.goto l, s, h1, rfl, φ', h3, h4⟩
  | exit i =>
    show (if i = id then EndW G nt φ st.hp w Q .normal a' w' else EndW G nt φ st.hp w Q (.exit i) a' w')
    simp only [blkW] at h1
    by_cases e : i = id
    · have hb : Nat.beq i id = true := by rw [e]; exact Nat.beq_refl id
      rw [hb] at h1
      rw [if_pos e]
      exact ⟨.normal, s, h1, rfl, φ', h3, h4⟩
    · have hb : Nat.beq i id = false := by
        cases hq : Nat.beq i id with
        | false => rfl
        | true => exact absurd (Nat.eq_of_beq_eq_true hq) e
      rw [hb] at h1
      rw [if_neg e]
      exact ⟨.exit i, s, h1, rfl, φ', h3, h4⟩

theorem aw_scope {b : Code} (h : AW P G nt b st (fun x s => match x with | .goto _ => False | x => Q x s)) : AW P G nt (.scope b) st Q := by
  constructor
  intro φ ac w hs
  refine wp_scope_straight (wp_mono (h.run φ ac w hs) fun e a' w' he => ?_)
  obtain ⟨x, s, h1, rfl, φ', h3, h4⟩ := he
  cases x with
  | normal => exact ⟨.normal, s, h1, rfl, φ', h3, h4⟩
  | ret => exact ⟨.ret, s, h1, rfl, φ', h3, h4⟩
  | goto l => exact h1.elim
  | exit i => exact ⟨.exit i, s, h1, rfl, φ', h3, h4⟩

theorem aw_cond {c : Operand} {x y : Code} {t : Bool} (hc : aev G st.tm c = some (.bool t)) (h1 : t = true → AW P G nt x st Q) (h2 : t = false → AW P G nt y st Q) : AW P G nt (.cond c x y) st Q := by
  constructor
  intro φ ac w hs
  have hv := (aev_rel hs.g hs.t c hc).bool_eq
  refine wp_cond hv ?_
  cases t with
  | true => exact (h1 rfl).run φ ac w hs
  | false => exact (h2 rfl).run φ ac w hs

/-- A loop: its state is 'S x' at a number 'x' for which 'I x' holds; every round lowers the measure. -/
theorem aw_loop {α : Type} {b : Code} (S : α → St) (I : α → Prop) (μ : α → Nat) (x0 : α) (h0 : I x0) (hst : Wk st (S x0))
    (round : ∀ x, I x → AW P G nt b (S x) (fun e s => match e with | .normal => ∃ y, I y ∧ μ y < μ x ∧ Wk s (S y) | e => Q e s)) : AW P G nt (.loop b) st Q := by
  constructor
  intro φ0 ac0 w0 hs0
  have key : ∀ n x, I x → μ x < n → ∀ φ a w, Ext φ0 st.hp w0 φ (S x).hp w → SRel G nt φ (S x) a w → Code.rounds P b (EndW G nt φ0 st.hp w0 Q) n a w := by
    intro n
    induction n with
    | zero => intro x _ h; omega
    | succ n ih =>
      intro x hx hlt φ a w hxt hs
      rw [rounds_succ]
      refine wp_mono ((round x hx).run φ a w hs) fun e a' w' he => ?_
      obtain ⟨e, s, h1, rfl, φ', h3, h4⟩ := he
      cases e with
      | normal =>
        obtain ⟨y, g1, g2, g3⟩ := h1
        exact ih y g1 (by omega) φ' a' w' ((hxt.trans h3).trans (Ext.sub g3.hp)) (h4.wk g3)
      | ret => exact ⟨.ret, s, h1, rfl, φ', hxt.trans h3, h4⟩
      | exit id => exact ⟨.exit id, s, h1, rfl, φ', hxt.trans h3, h4⟩
      | goto l => exact ⟨.goto l, s, h1, rfl, φ', hxt.trans h3, h4⟩
  exact wp_loop_rounds (μ x0 + 1) (key _ x0 h0 (Nat.lt_succ_self _) φ0 ac0 w0 (Ext.sub hst.hp) (hs0.wk hst))

/-! ### Single operations -/
/-- What an operation leads to, whatever its guard. -/
structure OpX (P : Program) (G nt : Nat) (d : Option Tmp) (op : Op) (ty : TypeId) (st : St) (R : St → Prop) : Prop where
  run : ∀ (φ : Ren) (a : Act) (w : World), SRel G nt φ st a w → ∀ (o : Oper), o.dst = d → o.op = op → o.type = ty → ∀ (Q : Exit → Act → World → Prop) (K : Act → World → Prop),
    (∀ r, R r → ∀ φ' a' w', Ext φ st.hp w φ' r.hp w' → SRel G nt φ' r a' w' → (quietK op = true → Pre w w') → K a' w') → o.wp P a w K Q

theorem opx_mono {d : Option Tmp} {op : Op} {ty : TypeId} {R R' : St → Prop} (h : OpX P G nt d op ty st R) (k : ∀ s, R s → R' s) : OpX P G nt d op ty st R' :=
  ⟨fun φ a w hs o h1 h2 h3 Q K hK => h.run φ a w hs o h1 h2 h3 Q K fun r hr => hK r (k r hr)⟩

def noCF : CF := fun _ _ _ _ => none
theorem noCF_sound (P : Program) (G : Nat) : CSound P G noCF := fun f l hp nx outs h => by cases h

/-- What a single operation of the machine comes to. -/
theorem opx_run {cf : CF} (hcf : CSound P G cf) {d : Option Tmp} {op : Op} {ty : TypeId} {outs : List Out} (hd : dstOk nt d = true) (h : runOp P (aev G st.tm) cf st.hp st.nx op = some outs) {R : St → Prop} (hR : ∀ r ∈ outs, R (stepped st d r)) : OpX P G nt d op ty st R := by
  constructor
  intro φ a w hs o h1 h2 h3 Q K hK
  subst h1; subst h2
  have hA : opA P G nt cf #[{ o with guard := none }] 0 st = some (outs.map (stepped st o.dst)) := by
    show opO P G nt cf #[{ o with guard := none }] { o with guard := none } st = _
    unfold opO wantA
    simp only [hd, cond_true, h]
  have := opA_sound hcf hA hs (Q := fun _ _ _ => False) (K := K) fun r hr φ' a' w' hx hs' hq => by
    obtain ⟨r0, hr0, rfl⟩ := List.mem_map.1 hr
    exact hK _ (hR r0 hr0) φ' a' w' hx hs' hq
  unfold wpOp at this
  simp only [List.getElem?_toArray, List.getElem?_cons_zero, Region.wanted] at this
  rcases this with this | ⟨_, x, y, hf⟩
  · unfold Oper.wp at this ⊢
    have e : execOp a.eval { o with guard := none } = execOp a.eval o := rfl
    rw [e] at this
    revert this
    generalize (execOp a.eval o).run P w = r
    unfold Oper.upon
    cases r with
    | ok v w' => cases v <;> first | exact id | (intro h; refine h.mono fun e w' he => ?_; cases e <;> first | exact he | exact he.elim | (obtain ⟨_, _, hf⟩ := he; exact hf.elim))
    | halt v w' => cases v <;> first | exact id | exact fun h => h.elim
  · exact hf.elim

end
end Go.Proofs.YtkjkoejnicbieaaGreat.AM

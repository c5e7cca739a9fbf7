/-
  THE ABSTRACT MACHINE AT SYMBOLIC STATES, part 3: temporaries as a list; one rule for each kind of operation.
-/
import Derived.Test.YtkjkoejnicbieaaGreatAmW2
namespace Go.Proofs.YtkjkoejnicbieaaGreat.AM
open Go Go.RowKit

def tms : List (Nat × Value) → Tr Value
  | [] => .nil
  | (t, v) :: l => (tms l).set t (some v)

def lk : List (Nat × Value) → Nat → Option Value
  | [], _ => none
  | (t, v) :: l, k => bif Nat.beq t k then some v else lk l k

theorem tms_get : ∀ (l : List (Nat × Value)) (k : Nat), (tms l).get k = lk l k := by
  intro l
  induction l with
  | nil => intro k; exact Tr.get_nil k
  | cons x l ih =>
    obtain ⟨t, v⟩ := x
    intro k
    simp only [tms, lk, Tr.get_set, ih]
    by_cases e : k = t
    · subst e; simp
    · have : Nat.beq t k = false := by
        cases hb : Nat.beq t k with
        | false => rfl
        | true => exact absurd (Nat.eq_of_beq_eq_true hb).symm e
      rw [if_neg e, this]; rfl

def evl (G : Nat) (l : List (Nat × Value)) : Operand → Option Value
  | .tmp t => lk l t
  | .const v => bif cst 8 v then some v else none
  | .global g => bif Nat.blt g G then some (.pointer (some ⟨g, 0, none⟩)) else none
  | .func f => some (.func (.func f) #[] #[])

theorem evl_eq (G : Nat) (l : List (Nat × Value)) : aev G (tms l) = evl G l := by
  funext x
  cases x <;> simp [aev, evl, tms_get]

def wantL (ops : Array Oper) (l : List (Nat × Value)) (g : Nat) (want : Bool) : Option Bool :=
  match (ops[g]?).bind (·.dst) with
  | none => some false
  | some t => match lk l t with
    | some (.bool b) => some (b == want)
    | some (.tuple _) => some false
    | _ => none

theorem wantL_eq {ops : Array Oper} {l : List (Nat × Value)} {g : Nat} {want : Bool} {b : Bool} (h : wantL ops l g want = some b) (d : Option Tmp) (op : Op) (ty : TypeId) (pos : String) (af : Array Edge) : wantA ops (tms l) ⟨d, op, ty, pos, af, some (g, want)⟩ = some b := by
  unfold wantA
  unfold wantL at h
  simp only [tms_get]
  exact h

/-! ### Less is known of temporaries -/
theorem wk_tms {l l0 : List (Nat × Value)} {hp hp0 : Tr AObj} {nx nx0 : Nat} {df : List ADef} (h : ∀ p ∈ l0, lk l p.1 = some p.2) (hh : ∀ i o, hp0.get i = some o → hp.get i = some o) (hn : nx ≤ nx0) : Wk ⟨tms l, hp, nx, df⟩ ⟨tms l0, hp0, nx0, df⟩ := by
  refine ⟨fun t v hv => ?_, hh, hn, rfl⟩
  simp only [tms_get] at hv ⊢
  have : ∀ (l0 : List (Nat × Value)), (∀ p ∈ l0, lk l p.1 = some p.2) → lk l0 t = some v → lk l t = some v := by
    intro l0
    induction l0 with
    | nil => intro _ h; cases h
    | cons x l0 ih =>
      obtain ⟨t0, v0⟩ := x
      intro hp hk
      simp only [lk] at hk
      cases hb : Nat.beq t0 t with
      | true =>
        rw [hb] at hk
        cases hk
        have := hp (t0, _) (List.mem_cons_self ..)
        rw [← Nat.eq_of_beq_eq_true hb]
        exact this
      | false =>
        rw [hb] at hk
        exact ih (fun p hp2 => hp p (List.mem_cons_of_mem _ hp2)) hk
  exact this l0 h hv

theorem wk_nil {l : List (Nat × Value)} : ∀ p ∈ ([] : List (Nat × Value)), lk l p.1 = some p.2 := fun _ h => by cases h
theorem wk_cons {l l0 : List (Nat × Value)} {t : Nat} {v : Value} (h : lk l t = some v) (k : ∀ p ∈ l0, lk l p.1 = some p.2) : ∀ p ∈ (t, v) :: l0, lk l p.1 = some p.2 := by
  intro p hp
  rcases List.mem_cons.1 hp with rfl | hp
  · exact h
  · exact k p hp

section
variable {P : Program} {G nt : Nat} {l : List (Nat × Value)} {hp : Tr AObj} {nx : Nat} {df : List ADef} {R : St → Prop} {ops : Array Oper} {os : List Oper} {is : List (Nat × Bool)}

/-! ### Guards -/
theorem s_g {d : Option Tmp} {op : Op} {ty : TypeId} {pos : String} {af : Array Edge} {g : Nat} {want : Bool} (hw : wantL ops l g want = some true) (h : OpX P G nt d op ty ⟨tms l, hp, nx, df⟩ (fun s => SeqW P G nt ops os s R)) : SeqW P G nt ops (⟨d, op, ty, pos, af, some (g, want)⟩ :: os) ⟨tms l, hp, nx, df⟩ R :=
  s_cons (wantL_eq hw _ _ _ _ _) h

/-- An operation whose guard says no. -/
theorem s_n {d : Tmp} {op : Op} {ty : TypeId} {pos : String} {af : Array Edge} {g : Nat} {want : Bool} (hw : wantL ops l g want = some false) (hd : dstOk nt (some d) = true) (h : SeqW P G nt ops os ⟨tms ((d, undef) :: l), hp, nx, df⟩ R) : SeqW P G nt ops (⟨some d, op, ty, pos, af, some (g, want)⟩ :: os) ⟨tms l, hp, nx, df⟩ R :=
  s_f (wantL_eq hw _ _ _ _ _) hd h

/-! ### Values -/
/-- What an operation computes that leaves memory as it is. -/
def QE (P : Program) (G : Nat) (l : List (Nat × Value)) (hp : Tr AObj) (nx : Nat) (op : Op) (v : Value) : Prop := quietK op = true ∧ qop P (evl G l) hp nx op = some (.same v)

theorem x_q {d : Tmp} {op : Op} {ty : TypeId} {v : Value} (h : QE P G l hp nx op v) (hd : dstOk nt (some d) = true) (k : R ⟨tms ((d, v) :: l), hp, nx, df⟩) : OpX P G nt (some d) op ty ⟨tms l, hp, nx, df⟩ R := by
  refine opx_run (noCF_sound P G) hd (outs := [⟨some v, hp, nx⟩]) ?_ fun r hr => by rw [List.mem_singleton.1 hr]; exact k
  simp only [runOp, h.1, cond_true, evl_eq, h.2]

theorem a_q {i d : Nat} {op : Op} {ty : TypeId} {pos : String} {af : Array Edge} {v : Value} (hi : ops[i]? = some ⟨some d, op, ty, pos, af, none⟩) (h : QE P G l hp nx op v) (hd : dstOk nt (some d) = true) (k : AnyW P G nt ops is ⟨tms ((d, v) :: l), hp, nx, df⟩ R) : AnyW P G nt ops ((i, true) :: is) ⟨tms l, hp, nx, df⟩ R := by
  refine ⟨_, ?_, k⟩
  unfold takeA wantA
  simp only [hi, hd, h.1, Bool.and_self, cond_true, evl_eq, h.2]
  rfl

theorem a_qg {i d : Nat} {op : Op} {ty : TypeId} {pos : String} {af : Array Edge} {g : Nat} {want : Bool} {v : Value} (hi : ops[i]? = some ⟨some d, op, ty, pos, af, some (g, want)⟩) (hw : wantL ops l g want = some true) (h : QE P G l hp nx op v) (hd : dstOk nt (some d) = true) (k : AnyW P G nt ops is ⟨tms ((d, v) :: l), hp, nx, df⟩ R) : AnyW P G nt ops ((i, true) :: is) ⟨tms l, hp, nx, df⟩ R := by
  refine ⟨_, ?_, k⟩
  unfold takeA
  simp only [hi, hd, h.1, Bool.and_self, cond_true, wantL_eq hw, evl_eq, h.2]
  rfl

theorem a_qn {i d : Nat} {op : Op} {ty : TypeId} {pos : String} {af : Array Edge} {g : Nat} {want : Bool} (hi : ops[i]? = some ⟨some d, op, ty, pos, af, some (g, want)⟩) (hw : wantL ops l g want = some false) (hq : quietK op = true) (hd : dstOk nt (some d) = true) (k : AnyW P G nt ops is ⟨tms ((d, undef) :: l), hp, nx, df⟩ R) : AnyW P G nt ops ((i, true) :: is) ⟨tms l, hp, nx, df⟩ R := by
  refine ⟨_, ?_, k⟩
  unfold takeA
  simp only [hi, hd, hq, Bool.and_self, cond_true, wantL_eq hw]
  rfl

theorem a_r {st : St} {i : Nat} {d : Option Tmp} {op : Op} {ty : TypeId} {pos : String} {af : Array Edge} (hi : ops[i]? = some ⟨d, op, ty, pos, af, none⟩) (h : OpX P G nt d op ty st (fun s => AnyW P G nt ops is s R)) : AnyW P G nt ops ((i, false) :: is) st R :=
  ⟨_, hi, .inl ⟨rfl, h⟩⟩

theorem a_rg {i : Nat} {d : Option Tmp} {op : Op} {ty : TypeId} {pos : String} {af : Array Edge} {g : Nat} {want : Bool} (hi : ops[i]? = some ⟨d, op, ty, pos, af, some (g, want)⟩) (hw : wantL ops l g want = some true) (h : OpX P G nt d op ty ⟨tms l, hp, nx, df⟩ (fun s => AnyW P G nt ops is s R)) : AnyW P G nt ops ((i, false) :: is) ⟨tms l, hp, nx, df⟩ R :=
  ⟨_, hi, .inl ⟨wantL_eq hw _ _ _ _ _, h⟩⟩

theorem a_rn {i d : Nat} {op : Op} {ty : TypeId} {pos : String} {af : Array Edge} {g : Nat} {want : Bool} (hi : ops[i]? = some ⟨some d, op, ty, pos, af, some (g, want)⟩) (hw : wantL ops l g want = some false) (hd : dstOk nt (some d) = true) (k : AnyW P G nt ops is ⟨tms ((d, undef) :: l), hp, nx, df⟩ R) : AnyW P G nt ops ((i, false) :: is) ⟨tms l, hp, nx, df⟩ R :=
  ⟨_, hi, .inr ⟨wantL_eq hw _ _ _ _ _, hd, k⟩⟩

section
variable {v u z : Value} {x y a b c : Operand} {t s e : TypeId}

theorem e_move (h : evl G l x = some v) : QE P G l hp nx (.move x) v := ⟨rfl, by simp only [qop, h]⟩
theorem e_assign (h : evl G l x = some v) : QE P G l hp nx (.assign x) v := ⟨rfl, by simp only [qop, h]⟩
theorem e_pick {q : Bool} (hc : evl G l c = some (.bool q)) (ha : evl G l a = some u) (hb : evl G l b = some v) : QE P G l hp nx (.pick c a b) (bif q then u else v) := ⟨rfl, by simp only [qop, hc, ha, hb]⟩
theorem e_pickT (hc : evl G l c = some (.bool true)) (ha : evl G l a = some u) (hb : evl G l b = some v) : QE P G l hp nx (.pick c a b) u := e_pick hc ha hb
theorem e_pickF (hc : evl G l c = some (.bool false)) (ha : evl G l a = some u) (hb : evl G l b = some v) : QE P G l hp nx (.pick c a b) v := e_pick hc ha hb
theorem e_build {ps : Array (Nat × Operand)} {parts : List (Nat × Value)} (h : evP (evl G l) ps.toList = some parts) (hb : buildA P t parts = some v) : QE P G l hp nx (.build t ps) v := ⟨rfl, by simp only [qop, h, hb]⟩
theorem e_load {bk o : Nat} (ha : evl G l a = some (.pointer (some ⟨bk, o, none⟩))) (h : ldVar P hp t bk o = some v) : QE P G l hp nx (.load t a) v := ⟨rfl, by simp only [qop, ha, h]⟩
theorem e_nilP {ad : Addr} (h : evl G l x = some (.pointer (some ad))) : QE P G l hp nx (.nilCheck x) (.pointer (some ad)) := ⟨rfl, by simp only [qop, h]⟩
theorem e_bin {op : BinOp} {ty2 : TypeId} (hx : evl G l x = some u) (hy : evl G l y = some v) (h : binA P op t (constO x) (constO y) u v = some z) : QE P G l hp nx (.binOp op t x y ty2) z := ⟨rfl, by simp only [qop, hx, hy, h]⟩
theorem e_un {op : UnOp} (hx : evl G l x = some u) (h : unA op u = some z) : QE P G l hp nx (.unOp op t x) z := ⟨rfl, by simp only [qop, hx, h]⟩
theorem e_conv (hx : evl G l x = some u) (h0 : strBytesA P nx s t u = none) (h : convA P hp s t u = some z) : QE P G l hp nx (.convert s t x) z := ⟨rfl, by simp only [qop, hx, h0, h]⟩
theorem e_iface (hx : evl G l x = some u) (h : P.concrete t = true) : QE P G l hp nx (.makeInterface t x) (.iface t u) := ⟨rfl, by simp only [qop, hx, h]⟩
theorem e_mkfn {f : FuncId} {first captured : Array Operand} {as cs : List Value} (h1 : evL (evl G l) first.toList = some as) (h2 : evL (evl G l) captured.toList = some cs) : QE P G l hp nx (.makeFunc (.func f) first captured) (.func (.func f) as.toArray cs.toArray) := ⟨rfl, by simp only [qop, h1, h2]⟩
theorem e_slice {lo hi mx : Option Operand} {vlo vhi vmx : Option Value} (hx : evl G l x = some u) (h1 : evO (evl G l) lo = some vlo) (h2 : evO (evl G l) hi = some vhi) (h3 : evO (evl G l) mx = some vmx) (h : sliceA P hp t u vlo vhi vmx = some z) : QE P G l hp nx (.slice t x lo hi mx) z := ⟨rfl, by simp only [qop, hx, h1, h2, h3, h]⟩
theorem e_fa {f : Nat} (hx : evl G l x = some u) (h : fieldAddrA P t u f = some z) : QE P G l hp nx (.fieldAddr t x f) z := ⟨rfl, by simp only [qop, hx, h]⟩
theorem e_field {f : Nat} (hx : evl G l x = some u) (h : fieldA P t u f = some z) : QE P G l hp nx (.field t x f) z := ⟨rfl, by simp only [qop, hx, h]⟩
theorem e_ia (hx : evl G l x = some u) (hy : evl G l y = some v) (h : indexAddrA P t u v = some z) : QE P G l hp nx (.indexAddr t x y) z := ⟨rfl, by simp only [qop, hx, hy, h]⟩
theorem e_ix (hx : evl G l x = some u) (hy : evl G l y = some v) (h : indexA P t u v = some z) : QE P G l hp nx (.index t x y) z := ⟨rfl, by simp only [qop, hx, hy, h]⟩
theorem e_ext {i : Nat} (hx : evl G l x = some u) (h : extractA u i = some z) : QE P G l hp nx (.extract x i) z := ⟨rfl, by simp only [qop, hx, h]⟩
theorem e_len (hx : evl G l x = some u) (h : lenA P hp t u = some z) : QE P G l hp nx (.call ⟨.builtin .len, #[x], #[t]⟩) z := ⟨rfl, by simp only [qop, hx, h]⟩
theorem e_min {ts : Array TypeId} (hx : evl G l x = some u) (hy : evl G l y = some v) (h : minA u v = some z) : QE P G l hp nx (.call ⟨.builtin .min, #[x, y], ts⟩) z := ⟨rfl, by simp only [qop, evL, hx, hy, h]⟩
theorem e_max {ts : Array TypeId} (hx : evl G l x = some u) (hy : evl G l y = some v) (h : maxA u v = some z) : QE P G l hp nx (.call ⟨.builtin .max, #[x, y], ts⟩) z := ⟨rfl, by simp only [qop, evL, hx, hy, h]⟩
theorem e_data0 {ts : Array TypeId} {n k : Nat} (hx : evl G l x = some (.slice none n k)) : QE P G l hp nx (.call ⟨.builtin .unsafeSliceData, #[x], ts⟩) (.pointer none) := ⟨rfl, by simp only [qop, evL, hx]⟩
theorem e_data {ts : Array TypeId} {bk o n k : Nat} (hx : evl G l x = some (.slice (some ⟨bk, o, none⟩) (n + 1) (k + 1))) : QE P G l hp nx (.call ⟨.builtin .unsafeSliceData, #[x], ts⟩) (.pointer (some ⟨bk, o, none⟩)) := ⟨rfl, by simp only [qop, evL, hx]⟩

/-! ### New objects -/
theorem x_new {d : Tmp} {op : Op} {ty : TypeId} {ob : AObj} (hq : quietK op = true) (h : qop P (evl G l) hp nx op = some (.new v ob)) (hd : dstOk nt (some d) = true) (k : R ⟨tms ((d, v) :: l), hp.set nx (some ob), nx + 1, df⟩) : OpX P G nt (some d) op ty ⟨tms l, hp, nx, df⟩ R := by
  refine opx_run (noCF_sound P G) hd (outs := [⟨some v, hp.set nx (some ob), nx + 1⟩]) ?_ fun r hr => by rw [List.mem_singleton.1 hr]; exact k
  simp only [runOp, hq, cond_true, evl_eq, h]

theorem x_alloc {d : Tmp} {ty : TypeId} {n : Nat} (hz : zeroOf P t = some z) (hs : szOf P t = some n) (hc : cst 8 z = true) (hd : dstOk nt (some d) = true) (k : R ⟨tms ((d, ptrTo nx) :: l), hp.set nx (some (.cells z.cells.toList t n 0 false true)), nx + 1, df⟩) : OpX P G nt (some d) (.alloc t) ty ⟨tms l, hp, nx, df⟩ R :=
  x_new rfl (by simp only [qop, hz, hs, hc, cond_true]) hd k
theorem x_box {d : Tmp} {ty : TypeId} {n : Nat} (hx : evl G l x = some v) (hs : szOf P t = some n) (hd : dstOk nt (some d) = true) (k : R ⟨tms ((d, ptrTo nx) :: l), hp.set nx (some (.cells v.cells.toList t n 0 false true)), nx + 1, df⟩) : OpX P G nt (some d) (.box t x) ty ⟨tms l, hp, nx, df⟩ R :=
  x_new rfl (by simp only [qop, hx, hs]) hd k
theorem x_bs {d : Tmp} {ty : TypeId} {len : Nat} {ps : Array (Nat × Operand)} {parts : List (Nat × Value)} {ob : AObj} (h : evP (evl G l) ps.toList = some parts) (hb : buildSliceA P nx t len parts = some (v, ob)) (hd : dstOk nt (some d) = true) (k : R ⟨tms ((d, v) :: l), hp.set nx (some ob), nx + 1, df⟩) : OpX P G nt (some d) (.buildSlice t len ps) ty ⟨tms l, hp, nx, df⟩ R :=
  x_new rfl (by simp only [qop, h, hb]) hd k
theorem x_make {d : Tmp} {ty : TypeId} {ob : AObj} (hx : evl G l x = some u) (hy : evl G l y = some z) (h : makeSliceA P nx t u z = some (v, ob)) (hd : dstOk nt (some d) = true) (k : R ⟨tms ((d, v) :: l), hp.set nx (some ob), nx + 1, df⟩) : OpX P G nt (some d) (.makeSlice t x y) ty ⟨tms l, hp, nx, df⟩ R :=
  x_new rfl (by simp only [qop, hx, hy, h]) hd k
theorem x_range {d : Tmp} {ty : TypeId} {w : ByteArray} (hx : evl G l x = some (.string w)) (hu : P.underlying t = some .string) (hd : dstOk nt (some d) = true) (k : R ⟨tms ((d, ptrTo nx) :: l), hp.set nx (some (.siter w 0)), nx + 1, df⟩) : OpX P G nt (some d) (.range t x) ty ⟨tms l, hp, nx, df⟩ R :=
  x_new rfl (by simp only [qop, hx, hu]) hd k

/-! ### Writes -/
theorem x_loud {d : Option Tmp} {op : Op} {ty : TypeId} {r : Out} (hq : quietK op = false) (h : loudA P (evl G l) noCF hp nx op = some [r]) (hd : dstOk nt d = true) (k : R (stepped ⟨tms l, hp, nx, df⟩ d r)) : OpX P G nt d op ty ⟨tms l, hp, nx, df⟩ R := by
  refine opx_run (noCF_sound P G) hd (outs := [r]) ?_ fun r' hr => by rw [List.mem_singleton.1 hr]; exact k
  simp only [runOp, hq, cond_false, evl_eq, h]

theorem x_store {ty : TypeId} {hp' : Tr AObj} (ha : evl G l a = some u) (hx : evl G l x = some v) (h : storeA P hp t u v = some hp') (k : R ⟨tms l, hp', nx, df⟩) : OpX P G nt none (.store t a x) ty ⟨tms l, hp, nx, df⟩ R :=
  x_loud (r := ⟨none, hp', nx⟩) rfl (by simp only [loudA, lop, ha, hx, h]) rfl k
theorem x_app {d : Tmp} {ty : TypeId} {hp' : Tr AObj} {nx' : Nat} (hx : evl G l x = some u) (hy : evl G l y = some v) (h : appA P hp nx s t u v = some ⟨some z, hp', nx'⟩) (hd : dstOk nt (some d) = true) (k : R ⟨tms ((d, z) :: l), hp', nx', df⟩) : OpX P G nt (some d) (.call ⟨.builtin .append, #[x, y], #[s, t]⟩) ty ⟨tms l, hp, nx, df⟩ R :=
  x_loud (r := ⟨some z, hp', nx'⟩) rfl (by simp only [loudA, lop, evL, hx, hy, h]) hd k
theorem x_ustr {d : Tmp} {ty : TypeId} {hp' : Tr AObj} (hx : evl G l x = some u) (hy : evl G l y = some v) (h : strA P hp s u v = some (z, hp')) (hd : dstOk nt (some d) = true) (k : R ⟨tms ((d, z) :: l), hp', nx, df⟩) : OpX P G nt (some d) (.call ⟨.builtin .unsafeString, #[x, y], #[s, t]⟩) ty ⟨tms l, hp, nx, df⟩ R :=
  x_loud (r := ⟨some z, hp', nx⟩) rfl (by simp only [loudA, lop, evL, hx, hy, h]) hd k
theorem x_copy {d : Option Tmp} {ty : TypeId} {hp' : Tr AObj} (hx : evl G l x = some u) (hy : evl G l y = some v) (h : copyA P hp s u v = some (z, hp')) (hd : dstOk nt d = true) (k : R (stepped ⟨tms l, hp, nx, df⟩ d ⟨some z, hp', nx⟩)) : OpX P G nt d (.call ⟨.builtin .copy, #[x, y], #[s, t]⟩) ty ⟨tms l, hp, nx, df⟩ R :=
  x_loud (r := ⟨some z, hp', nx⟩) rfl (by simp only [loudA, lop, evL, hx, hy, h]) hd k
theorem x_next {d : Tmp} {ty : TypeId} {q : Bool} {hp' : Tr AObj} (hx : evl G l x = some u) (h : nextA hp u q = some [(z, hp')]) (hd : dstOk nt (some d) = true) (k : R ⟨tms ((d, z) :: l), hp', nx, df⟩) : OpX P G nt (some d) (.next x q) ty ⟨tms l, hp, nx, df⟩ R :=
  x_loud (r := ⟨some z, hp', nx⟩) rfl (by simp only [loudA, lop, hx, h]; rfl) hd k

/-! ### Calls -/
theorem x_call {d : Tmp} {ty : TypeId} {args : Array Operand} {ts : Array TypeId} {f : FuncId} {fi ca : Array Value} {l' : List Value} {S : Value → Tr AObj → Nat → Prop} (hx : evl G l x = some (.func (.func f) fi ca)) (hl : evL (evl G l) args.toList = some l') (hd : dstOk nt (some d) = true)
    (hc : ACall P G f (fi.toList ++ l' ++ ca.toList) hp nx S) (k : ∀ v hp' nx', S v hp' nx' → R ⟨tms ((d, v) :: l), hp', nx', df⟩) : OpX P G nt (some d) (.call ⟨.value x, args, ts⟩) ty ⟨tms l, hp, nx, df⟩ R :=
  opx_call hd (by rw [evl_eq]; exact hx) (by rw [evl_eq]; exact hl) hc k
theorem x_calln {ty : TypeId} {args : Array Operand} {ts : Array TypeId} {f : FuncId} {fi ca : Array Value} {l' : List Value} {S : Value → Tr AObj → Nat → Prop} (hx : evl G l x = some (.func (.func f) fi ca)) (hl : evL (evl G l) args.toList = some l')
    (hc : ACall P G f (fi.toList ++ l' ++ ca.toList) hp nx S) (k : ∀ v hp' nx', S v hp' nx' → R ⟨tms l, hp', nx', df⟩) : OpX P G nt none (.call ⟨.value x, args, ts⟩) ty ⟨tms l, hp, nx, df⟩ R :=
  opx_call rfl (by rw [evl_eq]; exact hx) (by rw [evl_eq]; exact hl) hc k
/-- A call that only computes. -/
theorem x_pure {d : Tmp} {ty : TypeId} {args : Array Operand} {ts : Array TypeId} {f : FuncId} {fi ca : Array Value} {l' : List Value} (hx : evl G l x = some (.func (.func f) fi ca)) (hl : evL (evl G l) args.toList = some l') (hd : dstOk nt (some d) = true)
    (hc : ACall P G f (fi.toList ++ l' ++ ca.toList) hp nx (fun v' hp' nx' => v' = v ∧ hp' = hp ∧ nx' = nx)) (k : R ⟨tms ((d, v) :: l), hp, nx, df⟩) : OpX P G nt (some d) (.call ⟨.value x, args, ts⟩) ty ⟨tms l, hp, nx, df⟩ R :=
  x_call hx hl hd hc fun v' hp' nx' ⟨h1, h2, h3⟩ => by rw [h1, h2, h3]; exact k
theorem x_inv {d : Tmp} {name : String} {ty : TypeId} {args : Array Operand} {ts : Array TypeId} {f : FuncId} {r : Value} {l' : List Value} {S : Value → Tr AObj → Nat → Prop} (hx : evl G l x = some (.iface t v)) (hm : methodA P t v name = some (f, r)) (hl : evL (evl G l) args.toList = some l') (hd : dstOk nt (some d) = true)
    (hc : ACall P G f (r :: l') hp nx S) (k : ∀ v hp' nx', S v hp' nx' → R ⟨tms ((d, v) :: l), hp', nx', df⟩) : OpX P G nt (some d) (.call ⟨.invoke x name, args, ts⟩) ty ⟨tms l, hp, nx, df⟩ R :=
  opx_invoke hd (by rw [evl_eq]; exact hx) hm (by rw [evl_eq]; exact hl) hc k
end

/-! ### Tests -/
theorem aw_if {Q : AEx → St → Prop} {c : Operand} {x y : Code} {t : Bool} (hc : evl G l c = some (.bool t)) (h1 : t = true → AW P G nt x ⟨tms l, hp, nx, df⟩ Q) (h2 : t = false → AW P G nt y ⟨tms l, hp, nx, df⟩ Q) : AW P G nt (.cond c x y) ⟨tms l, hp, nx, df⟩ Q :=
  aw_cond (by rw [evl_eq]; exact hc) h1 h2
theorem aw_ifT {Q : AEx → St → Prop} {c : Operand} {x y : Code} (hc : evl G l c = some (.bool true)) (h1 : AW P G nt x ⟨tms l, hp, nx, df⟩ Q) : AW P G nt (.cond c x y) ⟨tms l, hp, nx, df⟩ Q :=
  aw_if hc (fun _ => h1) (fun h => by cases h)
theorem aw_ifF {Q : AEx → St → Prop} {c : Operand} {x y : Code} (hc : evl G l c = some (.bool false)) (h2 : AW P G nt y ⟨tms l, hp, nx, df⟩ Q) : AW P G nt (.cond c x y) ⟨tms l, hp, nx, df⟩ Q :=
  aw_if hc (fun h => by cases h) (fun _ => h2)

/-! ### What a function hands back -/
def resL (P : Program) (l : List (Nat × Value)) (hp : Tr AObj) : List ResultVar → Option (List Value)
  | [] => some []
  | .tmp t :: rs => match lk l t with
    | some v => match resL P l hp rs with
      | some vs => some (v :: vs)
      | none => none
    | none => none
  | .cell a t :: rs => match lk l a with
    | some (.pointer (some ⟨b, o, none⟩)) => match ldVar P hp t b o with
      | some v => match resL P l hp rs with
        | some vs => some (v :: vs)
        | none => none
      | none => none
    | _ => none

theorem resL_eq (l : List (Nat × Value)) (hp : Tr AObj) : ∀ rs, resV P (tms l) hp rs = resL P l hp rs := by
  intro rs
  induction rs with
  | nil => rfl
  | cons r rs ih => cases r <;> (simp only [resV, resL, tms_get, ih]; rfl)

theorem fn_ret {fn : Func} {S : Value → Tr AObj → Nat → Prop} {vs : List Value} (h : resL P l hp fn.results.toList = some vs) (k : S (packV vs) hp nx) : FnW P fn S .ret ⟨tms l, hp, nx, []⟩ :=
  ⟨.inr rfl, rfl, vs, by rw [resL_eq]; exact h, k⟩
theorem fn_end {fn : Func} {S : Value → Tr AObj → Nat → Prop} {vs : List Value} (h : resL P l hp fn.results.toList = some vs) (k : S (packV vs) hp nx) : FnW P fn S .normal ⟨tms l, hp, nx, []⟩ :=
  ⟨.inl rfl, rfl, vs, by rw [resL_eq]; exact h, k⟩
end

/-! ### Small facts -/
theorem ld1 {P : Program} {hp : Tr AObj} {t b o : Nat} {c : List Value} {e : TypeId} {sz fz : Nat} {ro hd : Bool} {v : Value} (ht : aggT P t = some false) (h : hp.get b = some (.cells c e sz fz ro hd)) (hv : c[o]? = some v) : ldVar P hp t b o = some v := by
  simp only [ldVar, ht, ldCell, h, hv]
theorem ldN {P : Program} {hp : Tr AObj} {t b o n : Nat} {c : List Value} {e : TypeId} {sz fz : Nat} {ro hd : Bool} {vs : List Value} (ht : aggT P t = some true) (hs : szOf P t = some n) (h : hp.get b = some (.cells c e sz fz ro hd)) (hle : Nat.ble (o + n) c.length = true) (hv : (c.drop o).take n = vs) : ldVar P hp t b o = some (.agg vs.toArray) := by
  simp only [ldVar, ht, hs, ldCells, h, hle, cond_true, Option.map_some, hv]
theorem st1 {P : Program} {hp : Tr AObj} {t b o n : Nat} {c : List Value} {e : TypeId} {sz fz : Nat} {hd : Bool} {v : Value} (hs : szOf P t = some n) (hn : Nat.beq v.cells.size n = true) (h : hp.get b = some (.cells c e sz fz false hd)) (hf : Nat.ble fz o = true) (hle : Nat.ble (o + v.cells.toList.length) c.length = true) (ho : allOne v.cells.toList = true) {c' : List Value} (hc : putL c o v.cells.toList = c') :
    storeA P hp t (.pointer (some ⟨b, o, none⟩)) v = some (hp.set b (some (.cells c' e sz fz false hd))) := by
  simp only [storeA, hs, hn, cond_true, stCells, h, hf, hle, ho, Bool.and_self, hc]
theorem lenStr {P : Program} {hp : Tr AObj} {t : TypeId} {s : ByteArray} (h : P.underlying t = some .string) : lenA P hp t (.string s) = some (.int .i64 s.size) := by simp only [lenA, h]
theorem lenSl {P : Program} {hp : Tr AObj} {t e : TypeId} {a : Option Addr} {n c : Nat} (h : P.underlying t = some (.slice e)) : lenA P hp t (.slice a n c) = some (.int .i64 n) := by simp only [lenA, h]
theorem natV_cast (k : IntKind) (n : Nat) : natV (.int k (n : Int)) = some n := by simp [natV]
theorem ixStr {P : Program} {t : TypeId} {s : ByteArray} {k : IntKind} {i : Nat} {b : UInt8} (h : P.underlying t = some .string) (hb : s.data.toList[i]? = some b) : indexA P t (.string s) (.int k (i : Int)) = some (.int .u8 b.toNat) := by simp only [indexA, natV_cast, h, hb]
theorem iaSl {P : Program} {t e : TypeId} {n : Nat} {k : IntKind} {b o len cap i : Nat} (h : P.underlying t = some (.slice e)) (hs : szOf P e = some n) (hi : i < len) : indexAddrA P t (.slice (some ⟨b, o, none⟩) len cap) (.int k (i : Int)) = some (.pointer (some ⟨b, o + i * n, none⟩)) := by
  have : Nat.blt i len = true := by simpa [Nat.blt_eq] using hi
  simp only [indexAddrA, natV_cast, h, this, cond_true, hs]
theorem b_addN {P : Program} {t : TypeId} {xc yc : Bool} (m n : Nat) (h : m + n < 9223372036854775808) : binA P .add t xc yc (.int .i64 (m : Int)) (.int .i64 (n : Int)) = some (.int .i64 ((m + n : Nat) : Int)) := by
  have : IntKind.i64.wrap ((m : Int) + (n : Int)) = ((m + n : Nat) : Int) := by rw [IntKind.wrap_i64]; omega
  simp [binA, binInt, this]
theorem b_subN {P : Program} {t : TypeId} {xc yc : Bool} (m n : Nat) (h : n ≤ m) (h2 : m < 9223372036854775808) : binA P .sub t xc yc (.int .i64 (m : Int)) (.int .i64 (n : Int)) = some (.int .i64 ((m - n : Nat) : Int)) := by
  have : IntKind.i64.wrap ((m : Int) - (n : Int)) = ((m - n : Nat) : Int) := by rw [IntKind.wrap_i64]; omega
  simp [binA, binInt, this]
end Go.Proofs.YtkjkoejnicbieaaGreat.AM

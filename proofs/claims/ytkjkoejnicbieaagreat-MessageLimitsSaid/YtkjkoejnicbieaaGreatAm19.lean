/-
  THE ABSTRACT MACHINE, part 19: one operation, and a region.
-/
import Derived.Test.YtkjkoejnicbieaaGreatAm18
namespace Go.Proofs.YtkjkoejnicbieaaGreat.AM
open Go Go.RowKit

/-- A call put off: the function, and what it will be handed. -/
structure ADef where
  f : FuncId
  l : List Value

/-- A state: temporaries, memory, how many numbers are taken, the calls put off. -/
structure St where
  tm : Tr Value
  hp : Tr AObj
  nx : Nat
  df : List ADef

def DRel (φ : Ren) (d : ADef) (d' : Deferred) : Prop :=
  ∃ cap args, d' = { target := .fn (.func d.f) cap, args := args } ∧ LRel φ d.l (args ++ cap).toList

structure SRel (G nt : Nat) (φ : Ren) (st : St) (a : Act) (w : World) : Prop where
  g : GRel G φ
  t : TRel φ st.tm a
  h : WRel φ st.hp w
  b : ∀ i, φ i ≠ none → i < st.nx
  n : a.tmps.size = nt
  d : All2 (DRel φ) st.df a.defers

theorem SRel.fresh {G nt : Nat} {φ : Ren} {st : St} {a : Act} {w : World} (h : SRel G nt φ st a w) : φ st.nx = none := by
  cases hn : φ st.nx with
  | none => rfl
  | some l => exact absurd (h.b st.nx (by rw [hn]; simp)) (Nat.lt_irrefl _)

theorem DRel.mono {φ ψ : Ren} (h : Ren.le φ ψ) {d : ADef} {d' : Deferred} (hd : DRel φ d d') : DRel ψ d d' := by
  obtain ⟨cap, args, e, hl⟩ := hd
  exact ⟨cap, args, e, All2.mono (fun _ _ hv => hv.mono h) hl⟩

/-! ### Guards -/
def wantA (ops : Array Oper) (tm : Tr Value) (o : Oper) : Option Bool :=
  match o.guard with
  | none => some true
  | some (g, want) => match (ops[g]?).bind (·.dst) with
    | none => some false
    | some t => match tm.get t with
      | some (.bool b) => some (b == want)
      | some (.tuple _) => some false
      | _ => none

theorem wantA_sound {φ : Ren} {tm : Tr Value} {a : Act} (h : TRel φ tm a) {ops : Array Oper} {o : Oper} {b : Bool} (hw : wantA ops tm o = some b) : Region.wanted o (yielded ops a.tmps) = b := by
  unfold wantA at hw
  unfold Region.wanted
  cases hg : o.guard with
  | none => simp [hg] at hw ⊢; exact hw
  | some gw =>
    obtain ⟨g, want⟩ := gw
    simp only [hg] at hw ⊢
    unfold yielded
    cases hd : (ops[g]?).bind (·.dst) with
    | none => simp [hd] at hw ⊢; exact hw
    | some t =>
      simp only [hd] at hw
      have hget : ∀ x, a.tmps.getD t undef = x → x ≠ undef → a.tmps[t]? = some x := by
        intro x hx hne
        cases hq : a.tmps[t]? with
        | none => simp [hq] at hx; exact absurd hx.symm hne
        | some y => simp [hq] at hx; rw [hx]
      split at hw
      · rename_i c hc
        have ht := h t _ hc
        generalize hv : a.tmps.getD t undef = v at ht
        cases ht
        have := hget _ hv (by simp [undef])
        simp only [Option.bind_some, this, Option.some.injEq] at hw ⊢
        rw [← hw]
        cases c <;> cases want <;> rfl
      · rename_i c hc
        have ht := h t _ hc
        generalize hv : a.tmps.getD t undef = v at ht
        cases ht
        simp only [Option.some.injEq] at hw
        subst hw
        simp only [Option.bind_some]
        cases hq : a.tmps[t]? with
        | none => rfl
        | some y =>
          simp [hq] at hv
          subst hv
          rfl
      · cases hw

/-! ### Calls -/
/-- What is asked of a call: it is entered and comes back, or the model answers it on the spot. -/
def Invokes (P : Program) (f : FuncId) (args : Array Value) (w : World) (R : Value → World → Prop) : Prop :=
  ((callFunc f args).run P w = .ok (.enter f args) w ∧ Calls P f args w (fun e w' => match e with | .returned v => R v w' | _ => False)) ∨
  (∃ v w', (callFunc f args).run P w = .ok (.value v) w' ∧ R v w')

theorem Invokes.mono {P : Program} {f : FuncId} {args : Array Value} {w : World} {R R' : Value → World → Prop} (h : Invokes P f args w R) (hr : ∀ v w', R v w' → R' v w') : Invokes P f args w R' := by
  rcases h with ⟨h1, h2⟩ | ⟨v, w', h1, h2⟩
  · refine .inl ⟨h1, h2.mono fun e w' he => ?_⟩
    cases e <;> first | exact hr _ _ he | exact he
  · exact .inr ⟨v, w', h1, hr _ _ h2⟩

abbrev CF := FuncId → List Value → Tr AObj → Nat → Option (List Out)

/-- Where a call may come back. -/
def Back (φ : Ren) (hp : Tr AObj) (w : World) (outs : List Out) (v' : Value) (w' : World) : Prop :=
  ∃ r ∈ outs, ∃ φ' v, r.v = some v ∧ Ext φ hp w φ' r.hp w' ∧ WRel φ' r.hp w' ∧ (∀ i, φ' i ≠ none → i < r.nx) ∧ VRel φ' v v'

def CSound (P : Program) (G : Nat) (cf : CF) : Prop :=
  ∀ f l hp nx outs, cf f l hp nx = some outs → ∀ φ w (args : Array Value), GRel G φ → LRel φ l args.toList → WRel φ hp w → (∀ i, φ i ≠ none → i < nx) → Invokes P f args w (Back φ hp w outs)

/-! ### Methods of interface values -/
def methodA (P : Program) (t : TypeId) (v : Value) (name : String) : Option (FuncId × Value) :=
  match P.info? t with
  | some i => match i.methods.find? (·.name == name) with
    | some m => match m.path.toList, m.func with
      | [], some (f, pr) => match P.underlying t, pr with
        | some (.pointer _), true => some (f, v)
        | some (.pointer _), false => none
        | some _, false => some (f, v)
        | _, _ => none
      | _, _ => none
    | none => none
  | none => none

theorem methodA_sound {P : Program} {φ : Ren} {t : TypeId} {v v' r : Value} {name : String} {f : FuncId} (hv : VRel φ v v') (h : methodA P t v name = some (f, r)) (k : Nat) (w : World) :
    ∃ r', (method (k + 1) t v' name).run P w = .ok (f, r') w ∧ VRel φ r r' := by
  unfold methodA at h
  split at h
  · rename_i i hi
    split at h
    · rename_i m hm
      split at h
      · rename_i f0 pr hp hf
        have hti : (typeInfo t).run P w = .ok i w := by simp [typeInfo, hi]
        cases hu : P.underlying t with
        | none => rw [hu] at h; cases h
        | some d =>
          cases d <;> cases pr <;> simp only [hu] at h <;> first
            | (cases h
               refine ⟨v', ?_, hv⟩
               unfold method
               simp only [Sem.run_bind, hti, Result.andThen_ok, hm, hp, follow, Sem.run_pure, hf, receiverAt, run_underlying hu, Place.get])
            | cases h
      · cases h
    · cases h
  · cases h

/-! ### One operation -/
/-- A call that is put off. -/
def dfr (ev : Operand → Option Value) (op : Op) : Option ADef :=
  match op with
  | .defer ⟨.value x, args, _⟩ => match ev x with
    | some (.func (.func f) fi ca) => match evL ev args.toList with
      | some l => some ⟨f, fi.toList ++ l ++ ca.toList⟩
      | none => none
    | _ => none
  | _ => none

def St.push (st : St) (d : ADef) : St := ⟨st.tm, st.hp, st.nx, d :: st.df⟩

def loudA (P : Program) (ev : Operand → Option Value) (cf : CF) (hp : Tr AObj) (nx : Nat) (op : Op) : Option (List Out) :=
  match op with
  | .call ⟨.value x, args, _⟩ => match ev x with
    | some (.func (.func f) fi ca) => match evL ev args.toList with
      | some l => cf f (fi.toList ++ l ++ ca.toList) hp nx
      | none => none
    | _ => none
  | .call ⟨.invoke x name, args, _⟩ => match ev x with
    | some (.iface t v) => match methodA P t v name with
      | some (f, r) => match evL ev args.toList with
        | some l => cf f (r :: l) hp nx
        | none => none
      | none => none
    | _ => none
  | op => lop P ev hp nx op

def runOp (P : Program) (ev : Operand → Option Value) (cf : CF) (hp : Tr AObj) (nx : Nat) (op : Op) : Option (List Out) :=
  bif quietK op then match qop P ev hp nx op with
    | some (.same v) => some [⟨some v, hp, nx⟩]
    | some (.new v ob) => some [⟨some v, hp.set nx (some ob), nx + 1⟩]
    | none => none
  else loudA P ev cf hp nx op

/-- What an operation leaves. -/
def stepped (st : St) (d : Option Tmp) (r : Out) : St :=
  match d with
  | some d => ⟨st.tm.set d (some (r.v.getD undef)), r.hp, r.nx, st.df⟩
  | none => ⟨st.tm, r.hp, r.nx, st.df⟩

def dstOk (nt : Nat) (d : Option Tmp) : Bool :=
  match d with
  | some d => Nat.blt d nt
  | none => true

def opO (P : Program) (G nt : Nat) (cf : CF) (ops : Array Oper) (o : Oper) (st : St) : Option (List St) :=
  bif dstOk nt o.dst then
    match wantA ops st.tm o with
    | some true => match runOp P (aev G st.tm) cf st.hp st.nx o.op with
      | some outs => some (outs.map (stepped st o.dst))
      | none => match dfr (aev G st.tm) o.op with
        | some d => some [(stepped st o.dst ⟨none, st.hp, st.nx⟩).push d]
        | none => none
    | some false => some [stepped st o.dst ⟨none, st.hp, st.nx⟩]
    | none => none
  else none

def opA (P : Program) (G nt : Nat) (cf : CF) (ops : Array Oper) (i : Nat) (st : St) : Option (List St) :=
  match ops[i]? with
  | none => some [st]
  | some o => opO P G nt cf ops o st

theorem SRel.step {G nt : Nat} {φ φ' : Ren} {st : St} {a : Act} {w w' : World} (h : SRel G nt φ st a w) {r : Out} {v' : Value} {d : Option Tmp} (hd : dstOk nt d = true) (hx : Ext φ st.hp w φ' r.hp w') (hw : WRel φ' r.hp w') (hb : ∀ i, φ' i ≠ none → i < r.nx) (hv : VRel φ' (r.v.getD undef) v') :
    SRel G nt φ' (stepped st d r) (a.put d v') w' := by
  cases d with
  | none => exact ⟨h.g.mono hx.le, h.t.mono hx.le, hw, hb, h.n, All2.mono (fun _ _ => DRel.mono hx.le) h.d⟩
  | some d =>
    have hlt : d < a.tmps.size := by rw [h.n]; simpa [dstOk, Nat.blt_eq] using hd
    exact ⟨h.g.mono hx.le, TRel.put (h.t.mono hx.le) hlt hv, hw, hb, by simpa [Act.put] using h.n, All2.mono (fun _ _ => DRel.mono hx.le) h.d⟩

theorem lop_call_none {P : Program} {ev : Operand → Option Value} {hp : Tr AObj} {nx : Nat} {x : Operand} {args : Array Operand} {ts : Array TypeId} : lop P ev hp nx (.call ⟨.value x, args, ts⟩) = none := rfl

/-- Where an operation may leave things, in the model. -/
def OpTo (P : Program) (φ : Ren) (hp : Tr AObj) (w : World) (s : Sem Next) (outs : List Out) (quiet : Bool) : Prop :=
  (∃ r ∈ outs, ∃ φ' w', Ext φ hp w φ' r.hp w' ∧ WRel φ' r.hp w' ∧ (∀ i, φ' i ≠ none → i < r.nx) ∧ (quiet = true → Pre w w') ∧
    ((∃ v', s.run P w = .ok (.value v') w' ∧ VRel φ' (r.v.getD undef) v') ∨ (s.run P w = .ok .skip w' ∧ VRel φ' (r.v.getD undef) undef))) ∨
  (quiet = false ∧ ∃ f args, s.run P w = .ok (.enter f args) w ∧ Calls P f args w (fun e w' => match e with | .returned v => Back φ hp w outs v w' | _ => False))

theorem runOp_sound {P : Program} {G : Nat} {cf : CF} (hcf : CSound P G cf) {φ : Ren} {hp : Tr AObj} {w : World} {nx : Nat} {ev : Operand → Option Value} {ρ : Operand → Value} (hev : ∀ x u, ev x = some u → VRel φ u (ρ x))
    (hG : GRel G φ) (hw : WRel φ hp w) (hb : ∀ i, φ i ≠ none → i < nx) {o : Oper} {outs : List Out} (h : runOp P ev cf hp nx o.op = some outs) : OpTo P φ hp w (execOp ρ o) outs (quietK o.op) := by
  have hn : φ nx = none := by
    cases hn : φ nx with
    | none => rfl
    | some l => exact absurd (hb nx (by rw [hn]; simp)) (Nat.lt_irrefl _)
  unfold runOp at h
  cases hq : quietK o.op with
  | true =>
    simp only [hq, cond_true] at h
    split at h
    · rename_i v hqop
      cases h
      obtain ⟨v', h1, h2⟩ := qop_sound hev hw hn hqop
      exact .inl ⟨_, List.mem_singleton.2 rfl, φ, w, Ext.refl _ _ _, hw, hb, fun _ => Pre.refl _, .inl ⟨v', h1, h2⟩⟩
    · rename_i v ob hqop
      cases h
      obtain ⟨v', x, l, w2, hw2, h1, h2, h3, h4⟩ := qop_sound hev hw hn hqop
      have hw2' : WRel φ hp w2 ∧ Ext φ hp w φ hp w2 ∧ l.blk = w2.heap.size ∧ Pre w w2 := by
        rcases hw2 with e | e
        · rw [e]; exact ⟨hw, Ext.refl _ _ _, h2, Pre.refl _⟩
        · rw [e]; exact ⟨hw.drew, Ext.drew _ _ _, h2, by exact ⟨Nat.le_refl _, fun _ _ => rfl⟩⟩
      obtain ⟨k1, k2, k3, k4⟩ := hw2'
      refine .inl ⟨_, List.mem_singleton.2 rfl, φ.put nx l, w2.alloc x, k2.trans (Ext.alloc hn k3 ob x), WRel.alloc k1 hn k3 ob x h4, fun i hi => ?_, fun _ => k4.trans (Pre.alloc w2 x), .inl ⟨v', h1, h3⟩⟩
      by_cases e : i = nx
      · subst e; exact Nat.lt_succ_self _
      · have : φ i ≠ none := by simpa [Ren.put, e] using hi
        exact Nat.lt_succ_of_lt (hb i this)
    · cases h
  | false =>
    simp only [hq, cond_false] at h
    have loud : ∀ {outs : List Out}, lop P ev hp nx o.op = some outs → OpTo P φ hp w (execOp ρ o) outs false := by
      intro outs hl
      obtain ⟨r, hr, φ', w', g1, g2, g3, g4, g5⟩ := lop_sound hev hw hn hl
      refine .inl ⟨r, hr, φ', w', g1, g2, fun i hi => ?_, fun h => (by cases h), ?_⟩
      · rcases g3 i hi with h1 | h1
        · exact Nat.lt_of_lt_of_le (hb i h1) g4
        · exact h1.2
      · cases hv : r.v with
        | none => rw [hv] at g5; exact .inr ⟨g5, undef_rel _⟩
        | some v => rw [hv] at g5; exact .inl g5
    unfold loudA at h
    split at h
    · rename_i x args ts hop
      split at h
      · rename_i f fi ca hx
        split at h
        · rename_i l hl
          have hfx := hev _ _ hx
          have hargs := evL_rel hev _ _ hl
          generalize hz : ρ x = z at hfx
          cases hfx with
          | func _ n1 e1 n2 e2 =>
            rename_i fi' ca'
            have r1 : LRel φ fi.toList fi'.toList := ARel.lrel ⟨n1, e1⟩
            have r2 : LRel φ ca.toList ca'.toList := ARel.lrel ⟨n2, e2⟩
            have hrun : execOp ρ o = callFunc f (fi' ++ args.map ρ ++ ca') := by
              obtain ⟨dst, op, ty, pos, after, guard⟩ := o
              simp only at hop
              subst hop
              simp only [execOp, resolve, hz, Deferred.ofValue]
              rfl
            have hl2 : LRel φ (fi.toList ++ l ++ ca.toList) (fi' ++ args.map ρ ++ ca').toList := by
              simp only [Array.toList_append, Array.toList_map]
              exact (r1.append hargs).append r2
            rcases hcf _ _ _ _ _ h φ w _ hG hl2 hw hb with ⟨h1, h2⟩ | ⟨v, w', h1, r, hr, φ', v', hv, g1, g2, g3, g4⟩
            · exact .inr ⟨rfl, _, _, by rw [hrun]; exact h1, h2⟩
            · exact .inl ⟨r, hr, φ', w', g1, g2, g3, fun h => (by cases h), .inl ⟨v, by rw [hrun]; exact h1, by rw [hv]; exact g4⟩⟩
        · cases h
      · cases h
    · rename_i x name args ts hop
      split at h
      · rename_i t v hx
        split at h
        · rename_i f r hmth
          split at h
          · rename_i l hl
            have hfx := hev _ _ hx
            have hargs := evL_rel hev _ _ hl
            generalize hz : ρ x = z at hfx
            cases hfx with
            | iface _ hv =>
              rename_i v'
              obtain ⟨r', hm1, hm2⟩ := methodA_sound hv hmth (P.types.size + Made.depth - 1) w
              have hd : P.types.size + Made.depth - 1 + 1 = P.types.size + Made.depth := by have : 0 < Made.depth := by decide
                                                                                            omega
              rw [hd] at hm1
              have hrun : (execOp ρ o).run P w = (callFunc f (#[r'] ++ args.map ρ)).run P w := by
                obtain ⟨dst, op, ty, pos, after, guard⟩ := o
                simp only at hop
                subst hop
                have e0 : (#[Value.iface t v'] ++ args.map ρ)[0]? = some (Value.iface t v') := by rw [Array.getElem?_append_left (by simp)]; rfl
                have e1 : (#[Value.iface t v'] ++ args.map ρ).extract 1 (#[Value.iface t v'] ++ args.map ρ).size = args.map ρ := by
                  apply Array.ext'
                  rw [Array.toList_extract, Array.toList_append, Array.size_append]
                  simp only [List.extract, List.singleton_append, List.drop_succ_cons, List.drop_zero]
                  exact List.take_of_length_le (by simp)
                simp only [execOp, resolve, hz, Sem.run_bind, Sem.run_pure, Result.andThen_ok, invoke, e0, e1, callMethod, run_program, hm1]
              have hl2 : LRel φ (r :: l) (#[r'] ++ args.map ρ).toList := by
                simp only [Array.toList_append, Array.toList_map]
                exact .cons hm2 hargs
              rcases hcf _ _ _ _ _ h φ w _ hG hl2 hw hb with ⟨h1, h2⟩ | ⟨v, w', h1, r, hr, φ', v', hv, g1, g2, g3, g4⟩
              · exact .inr ⟨rfl, _, _, by rw [hrun]; exact h1, h2⟩
              · exact .inl ⟨r, hr, φ', w', g1, g2, g3, fun h => (by cases h), .inl ⟨v, by rw [hrun]; exact h1, by rw [hv]; exact g4⟩⟩
          · cases h
        · cases h
      · cases h
    · exact loud h

theorem opA_sound {P : Program} {G nt : Nat} {cf : CF} (hcf : CSound P G cf) {ops : Array Oper} {i : Nat} {st : St} {outs : List St} (h : opA P G nt cf ops i st = some outs) {φ : Ren} {a : Act} {w : World} (hs : SRel G nt φ st a w)
    {Q : Exit → Act → World → Prop} {K : Act → World → Prop} (hK : ∀ r ∈ outs, ∀ φ' a' w', Ext φ st.hp w φ' r.hp w' → SRel G nt φ' r a' w' → (quietAt ops i = true → Pre w w') → K a' w') : wpOp P ops Q i K a w := by
  unfold opA at h
  unfold wpOp
  cases ho : ops[i]? with
  | none =>
    simp only [ho] at h ⊢
    cases h
    exact hK _ (List.mem_singleton.2 rfl) φ a w (Ext.refl _ _ _) hs fun _ => Pre.refl _
  | some o =>
    simp only [ho] at h ⊢
    unfold opO at h
    cases hd : dstOk nt o.dst with
    | false => simp [hd] at h
    | true =>
      simp only [hd, cond_true] at h
      split at h
      · rename_i hwant
        rw [if_pos (wantA_sound hs.t hwant)]
        split at h
        · rename_i os hrun
          cases h
          have hq : quietAt ops i = quietK o.op := by simp [quietAt, ho]
          have hto := runOp_sound hcf (fun x u hu => aev_rel hs.g hs.t x hu) hs.g hs.h hs.b hrun
          refine .inl ?_
          unfold Oper.wp
          rcases hto with ⟨r, hr, φ', w', g1, g2, g3, g4, g5⟩ | ⟨hqf, f, args, g1, g2⟩
          · have hmem : stepped st o.dst r ∈ os.map (stepped st o.dst) := List.mem_map.2 ⟨r, hr, rfl⟩
            rcases g5 with ⟨v', e, hv⟩ | ⟨e, hv⟩
            · rw [e, Oper.upon_value]
              exact hK (stepped st o.dst r) hmem φ' _ w' (by cases hdd : o.dst <;> exact g1) (hs.step hd g1 g2 g3 hv) (fun hh => g4 (hq ▸ hh))
            · rw [e, Oper.upon_skip]
              exact hK (stepped st o.dst r) hmem φ' _ w' (by cases hdd : o.dst <;> exact g1) (hs.step hd g1 g2 g3 hv) (fun hh => g4 (hq ▸ hh))
          · rw [g1, Oper.upon_enter]
            refine g2.mono fun e w' he => ?_
            cases e with
            | returned v =>
              obtain ⟨r, hr, φ', v', hv, k1, k2, k3, k4⟩ := he
              exact hK (stepped st o.dst r) (List.mem_map.2 ⟨r, hr, rfl⟩) φ' _ w' (by cases hdd : o.dst <;> exact k1) (hs.step hd k1 k2 k3 (by rw [hv]; exact k4)) (fun hh => by rw [hq, hqf] at hh; cases hh)
            | panicked c => exact he.elim
            | outgrown => exact he.elim
        · split at h
          · rename_i d hdf
            cases h
            refine .inl ?_
            unfold Oper.wp
            have hev : ∀ x u, aev G st.tm x = some u → VRel φ u (a.eval x) := fun x u hu => aev_rel hs.g hs.t x hu
            unfold dfr at hdf
            split at hdf
            · rename_i x args ts hop
              split at hdf
              · rename_i f fi ca hx
                split at hdf
                · rename_i l hl
                  cases hdf
                  have hfx := hev _ _ hx
                  have hargs := evL_rel hev _ _ hl
                  generalize hz : a.eval x = z at hfx
                  cases hfx with
                  | func _ n1 e1 n2 e2 =>
                    rename_i fi' ca'
                    have r1 : LRel φ fi.toList fi'.toList := ARel.lrel ⟨n1, e1⟩
                    have r2 : LRel φ ca.toList ca'.toList := ARel.lrel ⟨n2, e2⟩
                    have hrun : (execOp a.eval o).run P w = .ok (.defer { target := .fn (.func f) ca', args := fi' ++ args.map a.eval }) w := by
                      obtain ⟨dst, op, ty, pos, after, guard⟩ := o
                      simp only at hop
                      subst hop
                      simp only [execOp, resolve, hz, Deferred.ofValue]
                      rfl
                    have hl2 : LRel φ (fi.toList ++ l ++ ca.toList) (fi' ++ args.map a.eval ++ ca').toList := by
                      simp only [Array.toList_append, Array.toList_map]
                      exact (r1.append hargs).append r2
                    rw [hrun, Oper.upon_defer]
                    have hs2 : SRel G nt φ (st.push ⟨f, fi.toList ++ l ++ ca.toList⟩) { a with defers := { target := .fn (.func f) ca', args := fi' ++ args.map a.eval } :: a.defers } w :=
                      ⟨hs.g, hs.t, hs.h, hs.b, hs.n, .cons ⟨ca', _, rfl, hl2⟩ hs.d⟩
                    have := hs2.step (r := ⟨none, st.hp, st.nx⟩) (v' := undef) hd (Ext.refl _ _ _) hs.h hs.b (undef_rel _)
                    have e : stepped (st.push ⟨f, fi.toList ++ l ++ ca.toList⟩) o.dst ⟨none, st.hp, st.nx⟩ = (stepped st o.dst ⟨none, st.hp, st.nx⟩).push ⟨f, fi.toList ++ l ++ ca.toList⟩ := by
                      cases o.dst <;> rfl
                    rw [e] at this
                    exact hK _ (List.mem_singleton.2 rfl) φ _ w (by cases hdd : o.dst <;> exact Ext.refl _ _ _) this fun _ => Pre.refl _
                · cases hdf
              · cases hdf
            · cases hdf
          · cases h
      · rename_i hwant
        have hnw := wantA_sound hs.t hwant
        rw [if_neg (by rw [hnw]; exact Bool.false_ne_true)]
        cases h
        exact hK _ (List.mem_singleton.2 rfl) φ _ w (by cases hdd : o.dst <;> exact Ext.refl _ _ _) (hs.step (r := ⟨none, st.hp, st.nx⟩) hd (Ext.refl _ _ _) hs.h hs.b (undef_rel _)) fun _ => Pre.refl _
      · cases h

/-! ### Lists of states -/
def andAll {α β : Type} (f : α → Option (List β)) : List α → Option (List β)
  | [] => some []
  | x :: xs => match f x with
    | some a => match andAll f xs with
      | some b => some (a ++ b)
      | none => none
    | none => none

theorem andAll_mem {α β : Type} {f : α → Option (List β)} : ∀ {xs : List α} {ys : List β}, andAll f xs = some ys → ∀ x ∈ xs, ∃ zs, f x = some zs ∧ ∀ z ∈ zs, z ∈ ys := by
  intro xs
  induction xs with
  | nil => intro ys h x hx; cases hx
  | cons y xs ih =>
    intro ys h x hx
    simp only [andAll] at h
    split at h
    · rename_i a ha
      split at h
      · rename_i b hb
        cases h
        rcases List.mem_cons.1 hx with rfl | hx
        · exact ⟨a, ha, fun z hz => List.mem_append_left _ hz⟩
        · obtain ⟨zs, h1, h2⟩ := ih hb x hx
          exact ⟨zs, h1, fun z hz => List.mem_append_right _ (h2 z hz)⟩
      · cases h
    · cases h

/-! ### Regions in the order of the text -/
def seqA (P : Program) (G nt : Nat) (cf : CF) (ops : Array Oper) : List Oper → St → Option (List St)
  | [], st => some [st]
  | o :: os, st => match opO P G nt cf ops o st with
    | some [st'] => seqA P G nt cf ops os st'
    | some outs => andAll (seqA P G nt cf ops os) outs
    | none => none

theorem seqA_cons {P : Program} {G nt : Nat} {cf : CF} {ops : Array Oper} {o : Oper} {os : List Oper} {st : St} {outs : List St} (h : seqA P G nt cf ops (o :: os) st = some outs) :
    ∃ ms, opO P G nt cf ops o st = some ms ∧ ∀ m ∈ ms, ∃ zs, seqA P G nt cf ops os m = some zs ∧ ∀ z ∈ zs, z ∈ outs := by
  simp only [seqA] at h
  split at h
  · rename_i st' ho
    exact ⟨_, ho, fun m hm => by rw [List.mem_singleton.1 hm]; exact ⟨outs, h, fun z hz => hz⟩⟩
  · rename_i ms _ ho
    exact ⟨ms, ho, fun m hm => andAll_mem h m hm⟩
  · cases h

theorem seqA_sound {P : Program} {G nt : Nat} {cf : CF} (hcf : CSound P G cf) {ops : Array Oper} {Q : Exit → Act → World → Prop} : ∀ (os : List Oper) (i : Nat), (∀ k o, os[k]? = some o → ops[i + k]? = some o) → ∀ {st : St} {outs : List St}, seqA P G nt cf ops os st = some outs → ∀ {φ : Ren} {a : Act} {w : World}, SRel G nt φ st a w →
    (∀ r ∈ outs, ∀ φ' a' w', Ext φ st.hp w φ' r.hp w' → SRel G nt φ' r a' w' → Q .normal a' w') → wpOps P ops Q (List.range' i os.length) a w := by
  intro os
  induction os with
  | nil =>
    intro i _ st outs h φ a w hs hQ
    cases h
    exact hQ _ (List.mem_singleton.2 rfl) φ a w (Ext.refl _ _ _) hs
  | cons o os ih =>
    intro i hi st outs h φ a w hs hQ
    obtain ⟨ms, ho, hm⟩ := seqA_cons h
    rw [List.length_cons, List.range'_succ, wpOps_cons]
    have h0 : ops[i]? = some o := by simpa using hi 0 o (by simp)
    refine opA_sound hcf (i := i) (by unfold opA; rw [h0]; exact ho) hs fun r hr φ' a' w' hx hs' _ => ?_
    obtain ⟨zs, h1, h2⟩ := hm r hr
    exact ih (i + 1) (fun k x hk => by have := hi (k + 1) x (by simpa using hk); rwa [show i + (k + 1) = i + 1 + k from by omega] at this) h1 hs' fun r2 hr2 φ2 a2 w2 hx2 hs2 => hQ r2 (h2 r2 hr2) φ2 a2 w2 (hx.trans hx2) hs2

theorem seqA_all {P : Program} {G nt : Nat} {cf : CF} (hcf : CSound P G cf) {ops : Array Oper} {Q : Exit → Act → World → Prop} {st : St} {outs : List St} (h : seqA P G nt cf ops ops.toList st = some outs) {φ : Ren} {a : Act} {w : World} (hs : SRel G nt φ st a w)
    (hQ : ∀ r ∈ outs, ∀ φ' a' w', Ext φ st.hp w φ' r.hp w' → SRel G nt φ' r a' w' → Q .normal a' w') : wpOps P ops Q (List.range ops.size) a w := by
  have := seqA_sound hcf ops.toList 0 (fun k o hk => by simpa using hk) h hs hQ
  rwa [List.range_eq_range', ← Array.length_toList]
end Go.Proofs.YtkjkoejnicbieaaGreat.AM

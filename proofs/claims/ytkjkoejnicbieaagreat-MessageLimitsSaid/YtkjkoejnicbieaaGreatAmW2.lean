/-
  THE ABSTRACT MACHINE AT SYMBOLIC STATES, part 2: calls; regions; functions.
-/
import Derived.Test.YtkjkoejnicbieaaGreatAmW1
namespace Go.Proofs.YtkjkoejnicbieaaGreat.AM
open Go Go.RowKit

/-! ### Calls -/
/-- Where a call comes back. -/
def BackW (φ : Ren) (hp : Tr AObj) (w : World) (R : Value → Tr AObj → Nat → Prop) (v' : Value) (w' : World) : Prop :=
  ∃ v hp' nx', R v hp' nx' ∧ ∃ φ', Ext φ hp w φ' hp' w' ∧ WRel φ' hp' w' ∧ (∀ i, φ' i ≠ none → i < nx') ∧ VRel φ' v v'

def ACall (P : Program) (G : Nat) (f : FuncId) (l : List Value) (hp : Tr AObj) (nx : Nat) (R : Value → Tr AObj → Nat → Prop) : Prop :=
  ∀ (φ : Ren) (w : World) (args : Array Value), GRel G φ → LRel φ l args.toList → WRel φ hp w → (∀ i, φ i ≠ none → i < nx) → Invokes P f args w (BackW φ hp w R)

theorem ACall.mono {P : Program} {G : Nat} {f : FuncId} {l : List Value} {hp : Tr AObj} {nx : Nat} {R R' : Value → Tr AObj → Nat → Prop} (h : ACall P G f l hp nx R) (k : ∀ v hp' nx', R v hp' nx' → R' v hp' nx') : ACall P G f l hp nx R' :=
  fun φ w args h1 h2 h3 h4 => (h φ w args h1 h2 h3 h4).mono fun v' w' ⟨v, hp', nx', r, rest⟩ => ⟨v, hp', nx', k v hp' nx' r, rest⟩

theorem ACall.of_cf {P : Program} {G : Nat} {cf : CF} (hcf : CSound P G cf) {f : FuncId} {l : List Value} {hp : Tr AObj} {nx : Nat} {outs : List Out} (h : cf f l hp nx = some outs) : ACall P G f l hp nx (fun v hp' nx' => (⟨some v, hp', nx'⟩ : Out) ∈ outs) := by
  intro φ w args h1 h2 h3 h4
  refine (hcf f l hp nx outs h φ w args h1 h2 h3 h4).mono fun v' w' hb => ?_
  obtain ⟨⟨rv, rh, rn⟩, hr, φ', v, hv, k1, k2, k3, k4⟩ := hb
  simp only at hv
  subst hv
  exact ⟨v, rh, rn, hr, φ', k1, k2, k3, k4⟩

section
variable {P : Program} {G nt : Nat} {st : St} {R : St → Prop}

theorem opx_of_ {d : Option Tmp} {op : Op} {ty : TypeId} (hd : dstOk nt d = true) (hq : quietK op = false) {f : FuncId} {l : List Value} {S : Value → Tr AObj → Nat → Prop} (hc : ACall P G f l st.hp st.nx S)
    (hrun : ∀ (φ : Ren) (a : Act) (w : World), SRel G nt φ st a w → ∀ (o : Oper), o.op = op → ∃ args : Array Value, LRel φ l args.toList ∧ (execOp a.eval o).run P w = (callFunc f args).run P w)
    (hR : ∀ v hp' nx', S v hp' nx' → R (stepped st d ⟨some v, hp', nx'⟩)) : OpX P G nt d op ty st R := by
  constructor
  intro φ a w hs o h1 h2 h3 Q K hK
  subst h1; subst h2
  obtain ⟨args, hl, he⟩ := hrun φ a w hs o rfl
  have fin : ∀ v' w', BackW φ st.hp w S v' w' → K (a.put o.dst v') w' := by
    rintro v' w' ⟨v, hp', nx', r, φ', k1, k2, k3, k4⟩
    refine hK (stepped st o.dst ⟨some v, hp', nx'⟩) (hR v hp' nx' r) φ' _ w' (by cases hdd : o.dst <;> exact k1) (hs.step (r := ⟨some v, hp', nx'⟩) hd k1 k2 k3 k4) (fun hh => by rw [hq] at hh; cases hh)
  unfold Oper.wp
  rw [he]
  rcases hc φ w args hs.g hl hs.h hs.b with ⟨g1, g2⟩ | ⟨v', w', g1, g2⟩
  · rw [g1, Oper.upon_enter]
    refine g2.mono fun e w' he => ?_
    cases e with
    | returned v => exact fin _ _ he
    | panicked c => exact he.elim
    | outgrown => exact he.elim
  · rw [g1, Oper.upon_value]
    exact fin _ _ g2

theorem opx_call {d : Option Tmp} {x : Operand} {args : Array Operand} {ts : Array TypeId} {ty : TypeId} (hd : dstOk nt d = true) {f : FuncId} {fi ca : Array Value} (hx : aev G st.tm x = some (.func (.func f) fi ca)) {l : List Value} (hl : evL (aev G st.tm) args.toList = some l)
    {S : Value → Tr AObj → Nat → Prop} (hc : ACall P G f (fi.toList ++ l ++ ca.toList) st.hp st.nx S) (hR : ∀ v hp' nx', S v hp' nx' → R (stepped st d ⟨some v, hp', nx'⟩)) : OpX P G nt d (.call ⟨.value x, args, ts⟩) ty st R := by
  refine opx_of_ hd rfl hc (fun φ a w hs o hop => ?_) hR
  have hev : ∀ x u, aev G st.tm x = some u → VRel φ u (a.eval x) := fun x u hu => aev_rel hs.g hs.t x hu
  have hfx := hev _ _ hx
  have hargs := evL_rel hev _ _ hl
  generalize hz : a.eval x = z at hfx
  cases hfx with
  | func _ n1 e1 n2 e2 =>
    rename_i fi' ca'
    have r1 : LRel φ fi.toList fi'.toList := ARel.lrel ⟨n1, e1⟩
    have r2 : LRel φ ca.toList ca'.toList := ARel.lrel ⟨n2, e2⟩
    refine ⟨fi' ++ args.map a.eval ++ ca', ?_, ?_⟩
    · simp only [Array.toList_append, Array.toList_map]
      exact (r1.append hargs).append r2
    · obtain ⟨dst, op, ty, pos, after, guard⟩ := o
      simp only at hop
      subst hop
      simp only [execOp, resolve, hz, Deferred.ofValue]
      rfl

theorem opx_invoke {d : Option Tmp} {x : Operand} {name : String} {args : Array Operand} {ts : Array TypeId} {ty : TypeId} (hd : dstOk nt d = true) {t : TypeId} {v r : Value} {f : FuncId} (hx : aev G st.tm x = some (.iface t v)) (hm : methodA P t v name = some (f, r)) {l : List Value} (hl : evL (aev G st.tm) args.toList = some l)
    {S : Value → Tr AObj → Nat → Prop} (hc : ACall P G f (r :: l) st.hp st.nx S) (hR : ∀ v hp' nx', S v hp' nx' → R (stepped st d ⟨some v, hp', nx'⟩)) : OpX P G nt d (.call ⟨.invoke x name, args, ts⟩) ty st R := by
  refine opx_of_ hd rfl hc (fun φ a w hs o hop => ?_) hR
  have hev : ∀ x u, aev G st.tm x = some u → VRel φ u (a.eval x) := fun x u hu => aev_rel hs.g hs.t x hu
  have hfx := hev _ _ hx
  have hargs := evL_rel hev _ _ hl
  generalize hz : a.eval x = z at hfx
  cases hfx with
  | iface _ hv =>
    rename_i v'
    obtain ⟨r', hm1, hm2⟩ := methodA_sound hv hm (P.types.size + Made.depth - 1) w
    have hdp : P.types.size + Made.depth - 1 + 1 = P.types.size + Made.depth := by
      have : 0 < Made.depth := by decide
      omega
    rw [hdp] at hm1
    refine ⟨#[r'] ++ args.map a.eval, ?_, ?_⟩
    · simp only [Array.toList_append, Array.toList_map]
      exact .cons hm2 hargs
    · obtain ⟨dst, op, ty, pos, after, guard⟩ := o
      simp only at hop
      subst hop
      have e0 : (#[Value.iface t v'] ++ args.map a.eval)[0]? = some (Value.iface t v') := by rw [Array.getElem?_append_left (by simp)]; rfl
      have e1 : (#[Value.iface t v'] ++ args.map a.eval).extract 1 (#[Value.iface t v'] ++ args.map a.eval).size = args.map a.eval := by
        apply Array.ext'
        rw [Array.toList_extract, Array.toList_append, Array.size_append]
        simp only [List.extract, List.singleton_append, List.drop_succ_cons, List.drop_zero]
        exact List.take_of_length_le (by simp)
      simp only [execOp, resolve, hz, Sem.run_bind, Sem.run_pure, Result.andThen_ok, invoke, e0, e1, callMethod, run_program, hm1]

/-! ### Regions -/
/-- The operations that are left, in the order of the text. -/
structure SeqW (P : Program) (G nt : Nat) (ops : Array Oper) (os : List Oper) (st : St) (R : St → Prop) : Prop where
  run : ∀ (i : Nat), (∀ k o, os[k]? = some o → ops[i + k]? = some o) → ∀ (φ : Ren) (a : Act) (w : World), SRel G nt φ st a w → ∀ (Q : Exit → Act → World → Prop),
    (∀ r, R r → ∀ φ' a' w', Ext φ st.hp w φ' r.hp w' → SRel G nt φ' r a' w' → Q .normal a' w') → wpOps P ops Q (List.range' i os.length) a w

theorem s_nil {ops : Array Oper} (h : R st) : SeqW P G nt ops [] st R := ⟨fun _ _ _ _ _ hs _ hK => hK _ h _ _ _ (Ext.refl _ _ _) hs⟩

theorem s_cons {ops : Array Oper} {d : Option Tmp} {op : Op} {ty : TypeId} {pos : String} {af : Array Edge} {g : Option (Nat × Bool)} {os : List Oper} (hg : wantA ops st.tm ⟨d, op, ty, pos, af, g⟩ = some true)
    (h : OpX P G nt d op ty st (fun s => SeqW P G nt ops os s R)) : SeqW P G nt ops (⟨d, op, ty, pos, af, g⟩ :: os) st R := by
  constructor
  intro i hi φ a w hs Q hK
  rw [List.length_cons, List.range'_succ, wpOps_cons]
  have h0 : ops[i]? = some ⟨d, op, ty, pos, af, g⟩ := by simpa using hi 0 _ (by simp)
  unfold wpOp
  rw [h0]
  simp only
  rw [if_pos (wantA_sound hs.t hg)]
  refine .inl (h.run φ a w hs _ rfl rfl rfl Q _ fun r hr φ' a' w' hx hs' _ => ?_)
  exact hr.run (i + 1) (fun k x hk => by have := hi (k + 1) x (by simpa using hk); rwa [show i + (k + 1) = i + 1 + k from by omega] at this) φ' a' w' hs' Q fun r2 hr2 φ2 a2 w2 hx2 hs2 => hK r2 hr2 φ2 a2 w2 (hx.trans hx2) hs2

/-- An operation without a guard. -/
theorem s_t {ops : Array Oper} {d : Option Tmp} {op : Op} {ty : TypeId} {pos : String} {af : Array Edge} {os : List Oper} (h : OpX P G nt d op ty st (fun s => SeqW P G nt ops os s R)) : SeqW P G nt ops (⟨d, op, ty, pos, af, none⟩ :: os) st R := s_cons rfl h

theorem s_f {ops : Array Oper} {d : Option Tmp} {op : Op} {ty : TypeId} {pos : String} {af : Array Edge} {g : Nat × Bool} {os : List Oper} (hg : wantA ops st.tm ⟨d, op, ty, pos, af, some g⟩ = some false) (hd : dstOk nt d = true)
    (h : SeqW P G nt ops os (stepped st d ⟨none, st.hp, st.nx⟩) R) : SeqW P G nt ops (⟨d, op, ty, pos, af, some g⟩ :: os) st R := by
  constructor
  intro i hi φ a w hs Q hK
  rw [List.length_cons, List.range'_succ, wpOps_cons]
  have h0 : ops[i]? = some ⟨d, op, ty, pos, af, some g⟩ := by simpa using hi 0 _ (by simp)
  unfold wpOp
  rw [h0]
  simp only
  rw [if_neg (by rw [wantA_sound hs.t hg]; exact Bool.false_ne_true)]
  have hs2 := hs.step (r := ⟨none, st.hp, st.nx⟩) hd (Ext.refl _ _ _) hs.h hs.b (undef_rel _)
  refine h.run (i + 1) (fun k x hk => by have := hi (k + 1) x (by simpa using hk); rwa [show i + (k + 1) = i + 1 + k from by omega] at this) φ _ w hs2 Q fun r2 hr2 φ2 a2 w2 hx2 hs3 => hK r2 hr2 φ2 a2 w2 ?_ hs3
  cases d <;> exact hx2

theorem aw_reg {id : Nat} {ops : Array Oper} {Q : AEx → St → Prop} (h : SeqW P G nt ops ops.toList st (Q .normal)) : AW P G nt (.region id ops false) st Q := by
  constructor
  intro φ a w hs
  refine wp_region ?_
  have := h.run 0 (fun k o hk => by simpa using hk) φ a w hs (EndW G nt φ st.hp w Q) fun r hr φ' a' w' hx hs' => ⟨.normal, r, hr, rfl, φ', hx, hs'⟩
  rwa [List.range_eq_range', ← Array.length_toList]

/-- The operations of a region whose order is drawn, in the one order that need be looked at ('true': taken first; 'false': it alone can come up). -/
def AnyW (P : Program) (G nt : Nat) (ops : Array Oper) : List (Nat × Bool) → St → (St → Prop) → Prop
  | [], st, R => R st
  | (i, true) :: is, st, R => ∃ st', takeA P G nt ops i st = some st' ∧ AnyW P G nt ops is st' R
  | (i, false) :: is, st, R => ∃ o, ops[i]? = some o ∧ ((wantA ops st.tm o = some true ∧ OpX P G nt o.dst o.op o.type st (fun s => AnyW P G nt ops is s R)) ∨ (wantA ops st.tm o = some false ∧ dstOk nt o.dst = true ∧ AnyW P G nt ops is (stepped st o.dst ⟨none, st.hp, st.nx⟩) R))

theorem anyW_sound {ops : Array Oper} {Q : Exit → Act → World → Prop} (hsel : noSel ops = true) (hQ : ∀ c a a' w, Q (.panic c) a' w → Q (.panic c) a w) : ∀ (is : List (Nat × Bool)) (n : Nat) (listed : Array Bool) {st : St}, is.length ≤ n → orderOk P ops is listed = true → AnyW P G nt ops is st R → ∀ {φ : Ren} {a : Act} {w : World}, SRel G nt φ st a w →
    (∀ r, R r → ∀ φ' a' w', Ext φ st.hp w φ' r.hp w' → SRel G nt φ' r a' w' → Q .normal a' w') → wpAnyT P ops Q n listed a w := by
  intro is
  induction is with
  | nil =>
    intro n listed st _ ho hr φ a w hs hK
    have hrd : rdy ops listed = [] := by
      simp only [orderOk] at ho
      cases hr : rdy ops listed with
      | nil => rfl
      | cons _ _ => rw [hr] at ho; cases ho
    have hr' : Region.ready .any ops listed = [] := by rw [← rdy_eq]; exact hrd
    have fin := hK _ hr φ a w (Ext.refl _ _ _) hs
    cases n with
    | zero => exact ⟨hr', fin⟩
    | succ n => exact ⟨fun _ => fin, by rw [hr']; simp⟩
  | cons x is ih =>
    obtain ⟨i, b⟩ := x
    intro n listed st hn ho hr φ a w hs hK
    cases n with
    | zero => simp at hn
    | succ n =>
      simp only [orderOk, Bool.and_eq_true] at ho
      have h1 := ho.1
      have hlen : is.length ≤ n := by simpa using hn
      have take : ∀ (i : Nat) (st' : St) (R' : World → World → Prop), i ∈ rdy ops listed → takeA P G nt ops i st = some st' → orderOk P ops is (listed.setIfInBounds i true) = true → AnyW P G nt ops is st' R →
          (∀ u v w, R' u v → R' v w → R' u w) → (∀ u, R' u u) →
          (∀ o, ops[i]? = some o → ∃ v, SRel G nt φ st' (a.put o.dst v) w ∧ YieldsIf P ops (R' w) o v a ∧ (∀ j ∈ waiting ops i, listed.getD j false = false) ∧ (∀ j oj, ops[j]? = some oj → j ≠ i → listed.getD j true = false → j ∉ waiting ops i → o.apart ops oj = true ∧ ∀ u u', (quietAt ops j = true → Pre u u') → R' u u')) →
          wpAnyT P ops Q (n + 1) listed a w := by
        intro i st' R' hi ht ho2 hrest hR hR0 hy
        obtain ⟨o, hoi, hq, _, hhp⟩ := takeA_sound ht hs
        obtain ⟨v, h1, h2, h4, h3⟩ := hy o hoi
        refine wpAnyT_first (R := R') hoi (noSel_spec hsel) (fun c a w => hQ c a _ w) hR (waiting_ok ops i) n listed a w w h4 h3 (by rw [← rdy_eq]; exact hi) h2 (hR0 w) hq ?_
        exact ih n _ hlen ho2 hrest h1 fun r hr φ' a' w' hx hs' => hK r hr φ' a' w' (by rw [hhp] at hx; exact hx) hs'
      cases hf : (rdy ops listed).find? (canFree P ops listed) with
      | some j =>
        rw [hf] at h1
        simp only [Bool.and_eq_true] at h1
        obtain ⟨hb, hij⟩ := h1
        subst hb
        have e := Nat.eq_of_beq_eq_true hij
        subst e
        obtain ⟨st', ht, hrest⟩ := hr
        have hc := List.find?_some hf
        have hmem := List.mem_of_find?_eq_some hf
        simp only [canFree, Bool.and_eq_true] at hc
        refine take i st' (fun _ _ => True) hmem ht ho.2 hrest (fun _ _ _ _ _ => trivial) (fun _ => trivial) fun o ho => ?_
        obtain ⟨o', ho', _, ⟨hfree, _⟩, _⟩ := takeA_sound ht hs
        rw [ho] at ho'
        cases ho'
        rw [ho] at hc
        obtain ⟨v, h1, h2⟩ := hfree hc.1
        obtain ⟨k1, k2⟩ := apt_spec ho hc.2
        exact ⟨v, h1, h2, k1, fun j oj hj hne hun hno => ⟨(k2 j oj hj hne hun hno).1, fun _ _ _ => trivial⟩⟩
      | none =>
        rw [hf] at h1
        simp only at h1
        cases hst : (rdy ops listed).find? (canStable ops listed) with
        | some j =>
          rw [hst] at h1
          simp only [Bool.and_eq_true] at h1
          obtain ⟨hb, hij⟩ := h1
          subst hb
          have e := Nat.eq_of_beq_eq_true hij
          subst e
          obtain ⟨st', ht, hrest⟩ := hr
          have hc := List.find?_some hst
          have hmem := List.mem_of_find?_eq_some hst
          simp only [canStable, Bool.and_eq_true] at hc
          refine take i st' Pre hmem ht ho.2 hrest (fun _ _ _ => Pre.trans) Pre.refl fun o ho => ?_
          obtain ⟨o', ho', _, ⟨_, hsb⟩, _⟩ := takeA_sound ht hs
          rw [ho] at ho'
          cases ho'
          rw [ho] at hc
          obtain ⟨v, h1, h2⟩ := hsb hc.1
          obtain ⟨k1, k2⟩ := apt_spec ho hc.2
          exact ⟨v, h1, h2, k1, fun j oj hj hne hun hno => ⟨(k2 j oj hj hne hun hno).1, fun u u' hp => hp ((k2 j oj hj hne hun hno).2 rfl)⟩⟩
        | none =>
          rw [hst] at h1
          simp only at h1
          cases hrd : rdy ops listed with
          | nil => rw [hrd] at h1; cases h1
          | cons j js =>
            rw [hrd] at h1
            cases js with
            | cons _ _ => cases h1
            | nil =>
              simp only [Bool.and_eq_true, Bool.not_eq_true'] at h1
              obtain ⟨hb, hij⟩ := h1
              subst hb
              have e := Nat.eq_of_beq_eq_true hij
              subst e
              have hr' : Region.ready .any ops listed = [i] := by rw [← rdy_eq]; exact hrd
              obtain ⟨o, hoi, hcase⟩ := hr
              refine ⟨fun h0 => (by rw [hr'] at h0; cases h0), fun i2 hi2 => ?_⟩
              rw [hr', List.mem_singleton] at hi2
              subst hi2
              unfold wpOp
              rw [hoi]
              simp only
              have hqa : quietAt ops i2 = quietK o.op := by simp [quietAt, hoi]
              rcases hcase with ⟨hw, hop⟩ | ⟨hw, hd, hrest⟩
              · rw [if_pos (wantA_sound hs.t hw)]
                refine .inl (hop.run φ a w hs o rfl rfl rfl Q _ fun r hr φ' a' w' hx hs' hq => ⟨fun hh => hq (by rw [← hqa]; exact hh), ?_⟩)
                exact ih n _ hlen ho.2 hr hs' fun r2 hr2 φ2 a2 w2 hx2 hs2 => hK r2 hr2 φ2 a2 w2 (hx.trans hx2) hs2
              · rw [if_neg (by rw [wantA_sound hs.t hw]; exact Bool.false_ne_true)]
                have hs2 := hs.step (r := ⟨none, st.hp, st.nx⟩) hd (Ext.refl _ _ _) hs.h hs.b (undef_rel _)
                refine ⟨fun _ => Pre.refl _, ih n _ hlen ho.2 hrest hs2 fun r2 hr2 φ2 a2 w2 hx2 hs3 => hK r2 hr2 φ2 a2 w2 ?_ hs3⟩
                cases hdd : o.dst <;> (rw [hdd] at hx2; exact hx2)

theorem aw_any {id : Nat} {ops : Array Oper} {Q : AEx → St → Prop} (hm : P.follows .mixedOrders = true) (is : List (Nat × Bool)) (hn : noSel ops = true) (hl : Nat.ble is.length ops.size = true) (ho : orderOk P ops is (Array.replicate ops.size false) = true)
    (h : AnyW P G nt ops is st (Q .normal)) : AW P G nt (.region id ops true) st Q := by
  constructor
  intro φ a w hs
  refine wp_region_any hm (wpAny_of_T _ _ _ _ (anyW_sound hn (fun c a a' w hp => absurd hp EndW.panic) is _ _ (Nat.le_of_ble_eq_true hl) ho h hs.drew fun r hr φ' a' w' hx hs' => ?_))
  exact ⟨.normal, r, hr, rfl, φ', (Ext.drew φ st.hp w).trans hx, hs'⟩

/-! ### A function -/
/-- What a body is to end in. -/
structure FnW (P : Program) (fn : Func) (R : Value → Tr AObj → Nat → Prop) (x : AEx) (s : St) : Prop where
  ex : x = .normal ∨ x = .ret
  df : s.df = []
  vs : ∃ vs, resV P s.tm s.hp fn.results.toList = some vs ∧ R (packV vs) s.hp s.nx

theorem acall_fn (hname : ∀ (f : Nat) (fn : Func), P.funcs[f]? = some fn → (fn.name == "runtime.NumGoroutine") = false) {f : FuncId} {fn : Func} {c : Code} (hf : P.funcs[f]? = some fn) (hc : fn.body = some c) {l : List Value} (hle : Nat.ble l.length fn.ntmps = true) {hp : Tr AObj} {nx : Nat} {S : Value → Tr AObj → Nat → Prop}
    (h : AW P G fn.ntmps c ⟨entryT l 0 .nil, hp, nx, []⟩ (FnW P fn S)) : ACall P G f l hp nx S := by
  intro φ w args hG hl hw hb
  have hle := Nat.le_of_ble_eq_true hle
  have hsz := hl.length
  simp only [Array.length_toList] at hsz
  refine .inl ⟨?_, ?_⟩
  · simp only [callFunc, Sem.run_bind, run_program, Result.andThen_ok, hf, hname f fn hf, hc]
    rfl
  · refine calls_of_wp hf hc (wp_mono (h.run φ _ w ⟨hG, entry_rel hl _, hw, hb, by simp; omega, .nil⟩) fun e a' w' he => ?_)
    obtain ⟨x, s, ⟨k1, k2, vs, k3, k4⟩, rfl, φ', hxx, hs⟩ := he
    have hd : a'.defers = [] := by
      have := hs.d.length
      rw [k2] at this
      exact List.eq_nil_of_length_eq_zero this.symm
    obtain ⟨v', g1, g2⟩ := results_sound hs.t hs.h k3
    have fin : a'.defers = [] ∧ ∃ v, (results fn a'.tmps).run P w' = .ok v w' ∧ BackW φ hp w S v w' := ⟨hd, v', g1, packV vs, s.hp, s.nx, k4, φ', hxx, hs.h, hs.b, g2⟩
    rcases k1 with e | e <;> rw [e] <;> exact fin

/-! ### Calls that leave what is known as it is -/
theorem All2.zip {α β : Type} {R S T : α → β → Prop} (h : ∀ a b c, R a c → S a b → T a b) {as : List α} {bs cs : List β} (h1 : All2 S as bs) (h2 : All2 R as cs) : All2 T as bs := by
  induction h1 generalizing cs with
  | nil => exact .nil
  | cons hs _ ih => cases h2 with | cons hr t => exact .cons (h _ _ _ hr hs) (ih t)

theorem ORel.back {φ ψ : Ren} (hle : Ren.le φ ψ) {o : AObj} {l : Loc} {w w' : World} (h0 : ORel φ o l w) (h : ORel ψ o l w') : ORel φ o l w' := by
  cases o with
  | cells c elem sz fz ro hd =>
    obtain ⟨c', fr, h1, h2, h3, h4, h5, h6, h7⟩ := h
    obtain ⟨c0, fr0, k1, k2, k3, k4, k5, k6, k7⟩ := h0
    refine ⟨c', fr, h1, h2, h3, h4, h5, fun i v hv => ?_, h7⟩
    obtain ⟨v', g1, g2⟩ := h6 i v hv
    obtain ⟨v0, _, g4⟩ := k6 i v hv
    exact ⟨v', g1, g4.back hle g2⟩
  | map es clock =>
    obtain ⟨es', h1, p, h2, h3, h4⟩ := h
    obtain ⟨es0, k1, p0, k2, k3, k4⟩ := h0
    exact ⟨es', h1, p, h2, All2.zip (fun a b c hr hs => ⟨hs.1, hr.2.back hle hs.2⟩) h3 k3, h4⟩
  | iter m clock seen =>
    obtain ⟨h1, m', seen', h2, h3⟩ := h
    obtain ⟨k1, m0, seen0, k2, k3⟩ := h0
    refine ⟨h1, m', seen', h2, ?_⟩
    cases m with
    | none => exact h3
    | some r =>
      obtain ⟨lm, g1, g2⟩ := h3
      obtain ⟨lm0, g3, g4⟩ := k3
      have := hle _ _ g3
      rw [this] at g1
      cases g1
      exact ⟨_, g3, g2⟩
  | siter s pos => exact h

/-- A call that leaves all that was known as it was, and hands back a value without an address: what it made is forgotten. -/
theorem ACall.pure {f : FuncId} {l : List Value} {hp : Tr AObj} {nx : Nat} {S : Value → Tr AObj → Nat → Prop} (h : ACall P G f l hp nx S) {v0 : Value} (k : ∀ v hp' nx', S v hp' nx' → v = v0 ∧ ∀ i o, hp.get i = some o → hp'.get i = some o) (hc : cst 8 v0 = true) :
    ACall P G f l hp nx (fun v hp' nx' => v = v0 ∧ hp' = hp ∧ nx' = nx) := by
  intro φ w args hG hl hw hb
  refine (h φ w args hG hl hw hb).mono fun v' w' ⟨v, hp', nx', r, φ', hx, hw', hb', hv⟩ => ?_
  obtain ⟨rfl, hsub⟩ := k v hp' nx' r
  have hvv := cst_eq hc hv
  subst hvv
  refine ⟨v', hp, nx, ⟨rfl, rfl, rfl⟩, φ, ⟨Ren.le_refl _, hx.os, hx.tape, hx.output, hx.size, hx.frame, fun _ _ _ h1 h2 => born_same h1 h2⟩, ⟨fun i o l hi hl => ?_, fun i j oi oj li lj hne h1 h2 h3 h4 h5 => ?_⟩, hb, cst_rel φ 8 _ hc⟩
  · exact (hw.obj i o l hi hl).back hx.le (hw'.obj i o l (hsub i o hi) (hx.le _ _ hl))
  · exact hw'.apart i j oi oj li lj hne (hsub i oi h1) (hsub j oj h2) (hx.le _ _ h3) (hx.le _ _ h4) h5
end
end Go.Proofs.YtkjkoejnicbieaaGreat.AM

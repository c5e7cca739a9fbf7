/-
  THE ABSTRACT MACHINE, part 21: code, and a function.
-/
import Derived.Test.YtkjkoejnicbieaaGreatAm20
import Derived.LoopN
import Derived.Scope
import Derived.Defers
namespace Go.Proofs.YtkjkoejnicbieaaGreat.AM
open Go Go.RowKit

inductive AEx where
  | normal
  | ret
  | exit (id : Nat)
  | goto (l : Nat)

structure Co where
  ex : AEx
  st : St

def AEx.to : AEx → Exit
  | .normal => .normal
  | .ret => .ret
  | .exit id => .exit id
  | .goto l => .goto l

def Co.normal (st : St) : Co := ⟨.normal, st⟩

def inBlk (id : Nat) (o : Co) : Co :=
  match o.ex with
  | .exit i => bif Nat.beq i id then ⟨.normal, o.st⟩ else o
  | _ => o

def noGo (o : Co) : Bool :=
  match o.ex with
  | .goto _ => false
  | _ => true

def codeA (P : Program) (G nt : Nat) (cf : CF) : Nat → Code → St → Option (List Co)
  | 0, _, _ => none
  | n + 1, c, st => match c with
    | .skip | .label _ => some [⟨.normal, st⟩]
    | .region _ ops draw => match regA P G nt cf ops draw st with
      | some outs => some (outs.map Co.normal)
      | none => none
    | .seq a b => match codeA P G nt cf n a st with
      | some outs => andAll (fun o => match o.ex with
        | .normal => codeA P G nt cf n b o.st
        | _ => some [o]) outs
      | none => none
    | .cond c x y => match aev G st.tm c with
      | some (.bool t) => codeA P G nt cf n (bif t then x else y) st
      | _ => none
    | .block id b => match codeA P G nt cf n b st with
      | some outs => some (outs.map (inBlk id))
      | none => none
    | .loop b => match codeA P G nt cf n b st with
      | some outs => andAll (fun o => match o.ex with
        | .normal => codeA P G nt cf n (.loop b) o.st
        | _ => some [o]) outs
      | none => none
    | .exit id => some [⟨.exit id, st⟩]
    | .scope b => match codeA P G nt cf n b st with
      | some outs => bif outs.all noGo then some outs else none
      | none => none
    | .goto l => some [⟨.goto l, st⟩]
    | .ret => some [⟨.ret, st⟩]
    | _ => none

/-- Where code may end. -/
def Ends (G nt : Nat) (φ : Ren) (hp : Tr AObj) (w : World) (outs : List Co) (e : Exit) (a' : Act) (w' : World) : Prop :=
  ∃ r ∈ outs, e = r.ex.to ∧ ∃ φ', Ext φ hp w φ' r.st.hp w' ∧ SRel G nt φ' r.st a' w'

theorem Ends.panic {G nt : Nat} {φ : Ren} {hp : Tr AObj} {w : World} {outs : List Co} {c : List PanicEntry} {a' : Act} {w' : World} (h : Ends G nt φ hp w outs (.panic c) a' w') : False := by
  obtain ⟨r, _, e, _⟩ := h
  cases hx : r.ex <;> rw [hx] at e <;> cases e

theorem Ends.trans {G nt : Nat} {φ ψ : Ren} {hp hp2 : Tr AObj} {w w2 : World} {outs outs2 : List Co} {e : Exit} {a' : Act} {w' : World} (h : Ends G nt ψ hp2 w2 outs e a' w') (hx : Ext φ hp w ψ hp2 w2) (hm : ∀ r ∈ outs, r ∈ outs2) : Ends G nt φ hp w outs2 e a' w' := by
  obtain ⟨r, hr, he, φ', h1, h2⟩ := h
  exact ⟨r, hm r hr, he, φ', hx.trans h1, h2⟩

theorem codeA_sound {P : Program} {G nt : Nat} {cf : CF} (hm : P.follows .mixedOrders = true) (hcf : CSound P G cf) : ∀ (n : Nat),
    (∀ (c : Code) (st : St) (outs : List Co), codeA P G nt cf n c st = some outs → ∀ {φ : Ren} {a : Act} {w : World}, SRel G nt φ st a w → c.wp P (Ends G nt φ st.hp w outs) a w) ∧
    (∀ (b : Code) (st : St) (outs : List Co), codeA P G nt cf n (.loop b) st = some outs → ∀ {φ : Ren} {a : Act} {w : World}, SRel G nt φ st a w → ∀ {φ0 : Ren} {hp0 : Tr AObj} {w0 : World} {outs0 : List Co}, Ext φ0 hp0 w0 φ st.hp w → (∀ r ∈ outs, r ∈ outs0) → Code.rounds P b (Ends G nt φ0 hp0 w0 outs0) n a w) := by
  intro n
  induction n with
  | zero => exact ⟨fun c st outs h => by simp [codeA] at h, fun b st outs h => by simp [codeA] at h⟩
  | succ n ih =>
    obtain ⟨ih1, ih2⟩ := ih
    have here : ∀ {φ : Ren} {st : St} {a : Act} {w : World} (e : AEx), SRel G nt φ st a w → Ends G nt φ st.hp w [⟨e, st⟩] e.to a w :=
      fun e hs => ⟨_, List.mem_singleton.2 rfl, rfl, _, Ext.refl _ _ _, hs⟩
    have loop : ∀ (b : Code) (st : St) (outs : List Co), codeA P G nt cf (n + 1) (.loop b) st = some outs → ∀ {φ : Ren} {a : Act} {w : World}, SRel G nt φ st a w → ∀ {φ0 : Ren} {hp0 : Tr AObj} {w0 : World} {outs0 : List Co}, Ext φ0 hp0 w0 φ st.hp w → (∀ r ∈ outs, r ∈ outs0) → Code.rounds P b (Ends G nt φ0 hp0 w0 outs0) (n + 1) a w := by
      intro b st outs h φ a w hs φ0 hp0 w0 outs0 hx0 hm0
      simp only [codeA] at h
      split at h
      · rename_i os hb
        rw [rounds_succ]
        refine wp_mono (ih1 b st os hb hs) fun e a' w' he => ?_
        obtain ⟨r, hr, rfl, φ', hx, hs'⟩ := he
        obtain ⟨zs, h1, h2⟩ := andAll_mem h r hr
        cases hex : r.ex with
        | normal =>
          rw [hex] at h1
          exact ih2 b r.st zs h1 hs' (hx0.trans hx) fun z hz => hm0 z (h2 z hz)
        | ret => rw [hex] at h1; cases h1; exact ⟨r, hm0 r (h2 r (List.mem_singleton.2 rfl)), by rw [hex], φ', hx0.trans hx, hs'⟩
        | exit id => rw [hex] at h1; cases h1; exact ⟨r, hm0 r (h2 r (List.mem_singleton.2 rfl)), by rw [hex], φ', hx0.trans hx, hs'⟩
        | goto l => rw [hex] at h1; cases h1; exact ⟨r, hm0 r (h2 r (List.mem_singleton.2 rfl)), by rw [hex], φ', hx0.trans hx, hs'⟩
      · cases h
    refine ⟨fun c st outs h φ a w hs => ?_, loop⟩
    cases c with
    | skip => simp only [codeA] at h; cases h; exact wp_skip (here .normal hs)
    | label l => simp only [codeA] at h; cases h; exact wp_label (here .normal hs)
    | region id ops draw =>
      simp only [codeA] at h
      split at h
      · rename_i os hr
        cases h
        exact regA_sound hm hcf hr hs (fun c a a' w hp => absurd hp Ends.panic) fun r hr φ' a' w' hx hs' => ⟨Co.normal r, List.mem_map.2 ⟨r, hr, rfl⟩, rfl, φ', hx, hs'⟩
      · cases h
    | seq x y =>
      simp only [codeA] at h
      split at h
      · rename_i os hx
        refine wp_seq (wp_mono (ih1 x st os hx hs) fun e a' w' he => ?_)
        obtain ⟨r, hr, rfl, φ', hx', hs'⟩ := he
        obtain ⟨zs, h1, h2⟩ := andAll_mem h r hr
        cases hex : r.ex with
        | normal =>
          rw [hex] at h1
          exact wp_mono (ih1 y r.st zs h1 hs') fun e a' w' he => he.trans hx' h2
        | ret => rw [hex] at h1; cases h1; exact ⟨r, h2 r (List.mem_singleton.2 rfl), by rw [hex], φ', hx', hs'⟩
        | exit id => rw [hex] at h1; cases h1; exact ⟨r, h2 r (List.mem_singleton.2 rfl), by rw [hex], φ', hx', hs'⟩
        | goto l => rw [hex] at h1; cases h1; exact ⟨r, h2 r (List.mem_singleton.2 rfl), by rw [hex], φ', hx', hs'⟩
      · cases h
    | cond x y z =>
      simp only [codeA] at h
      split at h
      · rename_i t hc
        have hv := aev_rel hs.g hs.t x hc
        have hv' := hv.bool_eq
        refine wp_cond hv' ?_
        cases t with
        | true => exact ih1 y st outs h hs
        | false => exact ih1 z st outs h hs
      · cases h
    | block id b =>
      simp only [codeA] at h
      split at h
      · rename_i os hb
        cases h
        refine wp_block (wp_mono (ih1 b st os hb hs) fun e a' w' he => ?_)
        obtain ⟨r, hr, rfl, φ', hx', hs'⟩ := he
        have hmem : inBlk id r ∈ os.map (inBlk id) := List.mem_map.2 ⟨r, hr, rfl⟩
        cases hex : r.ex with
        | normal => exact ⟨_, hmem, by simp [inBlk, hex], φ', by simpa [inBlk, hex] using hx', by simpa [inBlk, hex] using hs'⟩
        | ret => exact ⟨_, hmem, by simp [inBlk, hex], φ', by simpa [inBlk, hex] using hx', by simpa [inBlk, hex] using hs'⟩
        | goto l => exact ⟨_, hmem, by simp [inBlk, hex], φ', by simpa [inBlk, hex] using hx', by simpa [inBlk, hex] using hs'⟩
        | exit i =>
          show (if i = id then Ends G nt φ st.hp w (os.map (inBlk id)) .normal a' w' else Ends G nt φ st.hp w (os.map (inBlk id)) (.exit i) a' w')
          by_cases e : i = id
          · rw [if_pos e]
            have hb : Nat.beq i id = true := by rw [e]; exact Nat.beq_refl id
            exact ⟨_, hmem, by simp [inBlk, hex, hb]; rfl, φ', by simpa [inBlk, hex, hb] using hx', by simpa [inBlk, hex, hb] using hs'⟩
          · rw [if_neg e]
            have hb : Nat.beq i id = false := by
              cases hq : Nat.beq i id with
              | false => rfl
              | true => exact absurd (Nat.eq_of_beq_eq_true hq) e
            exact ⟨_, hmem, by simp [inBlk, hex, hb]; rfl, φ', by simpa [inBlk, hex, hb] using hx', by simpa [inBlk, hex, hb] using hs'⟩
      · cases h
    | loop b => exact wp_loop_rounds (n + 1) (loop b st outs h hs (Ext.refl _ _ _) fun _ h => h)
    | exit id => simp only [codeA] at h; cases h; exact wp_exit (here (.exit id) hs)
    | goto l => simp only [codeA] at h; cases h; exact wp_goto (here (.goto l) hs)
    | ret => simp only [codeA] at h; cases h; exact wp_ret (here .ret hs)
    | scope b =>
      simp only [codeA] at h
      split at h
      · rename_i os hb
        cases hg : os.all noGo with
        | false => simp [hg] at h
        | true =>
          simp only [hg, cond_true, Option.some.injEq] at h
          subst h
          refine wp_scope_straight (wp_mono (ih1 b st os hb hs) fun e a' w' he => ?_)
          have he0 := he
          obtain ⟨r, hr, rfl, φ', hx', hs'⟩ := he
          have hng := List.all_eq_true.1 hg r hr
          cases hex : r.ex with
          | goto l => rw [noGo, hex] at hng; cases hng
          | normal => rw [hex] at he0; exact he0
          | ret => rw [hex] at he0; exact he0
          | exit id => rw [hex] at he0; exact he0
      · cases h
    | rangeFunc f p x y => simp [codeA] at h
    | refuse s => simp [codeA] at h

/-! ### A function -/
def resV (P : Program) (tm : Tr Value) (hp : Tr AObj) : List ResultVar → Option (List Value)
  | [] => some []
  | .tmp t :: rs => match tm.get t with
    | some v => match resV P tm hp rs with
      | some vs => some (v :: vs)
      | none => none
    | none => none
  | .cell a t :: rs => match tm.get a with
    | some (.pointer (some ⟨b, o, none⟩)) => match ldVar P hp t b o with
      | some v => match resV P tm hp rs with
        | some vs => some (v :: vs)
        | none => none
      | none => none
    | _ => none

def packV : List Value → Value
  | [v] => v
  | vs => .tuple vs.toArray

theorem resV_sound {P : Program} {φ : Ren} {tm : Tr Value} {hp : Tr AObj} {a : Act} {w : World} (ht : TRel φ tm a) (hw : WRel φ hp w) : ∀ (rs : List ResultVar) (vs : List Value), resV P tm hp rs = some vs →
    ∃ vs', (rs.mapM (fun (r : ResultVar) => match r with
      | .tmp t => pure (a.tmps.getD t undef)
      | .cell c t => do loadVar t (← asAddr (a.tmps.getD c undef))) : Sem (List Value)).run P w = .ok vs' w ∧ LRel φ vs vs' := by
  intro rs
  induction rs with
  | nil => intro vs h; simp [resV] at h; subst h; exact ⟨[], rfl, .nil⟩
  | cons r rs ih =>
    intro vs h
    cases r with
    | tmp t =>
      simp only [resV] at h
      split at h
      · rename_i v hv
        split at h
        · rename_i us hu
          cases h
          obtain ⟨us', h1, h2⟩ := ih us hu
          exact ⟨a.tmps.getD t undef :: us', by simp only [List.mapM_cons, Sem.run_bind, Sem.run_pure, Result.andThen_ok, h1], .cons (ht t v hv) h2⟩
        · cases h
      · cases h
    | cell c t =>
      simp only [resV] at h
      split at h
      · rename_i b o hb
        have hc := ht c _ hb
        generalize hz : a.tmps.getD c undef = z at hc
        cases hc with
        | @ptr _ _ l hl =>
        split at h
        · rename_i v hv
          split at h
          · rename_i us hu
            cases h
            obtain ⟨us', h1, h2⟩ := ih us hu
            obtain ⟨v', g1, g2⟩ := ldVar_sound hw hv hl
            have ha : (asAddr (a.tmps.getD c undef)).run P w = .ok ⟨l.blk, l.off + o, none⟩ w := by rw [hz]; rfl
            exact ⟨v' :: us', by simp only [List.mapM_cons, Sem.run_bind, ha, Sem.run_pure, Result.andThen_ok, g1, h1], .cons g2 h2⟩
          · cases h
        · cases h
      · cases h

theorem packV_rel {φ : Ren} {vs vs' : List Value} (h : LRel φ vs vs') : VRel φ (packV vs) (if h : vs'.toArray.size = 1 then vs'.toArray[0] else .tuple vs'.toArray) := by
  cases h with
  | nil => exact .tuple rfl (fun i h => by simp at h)
  | cons h1 t =>
    cases t with
    | nil => simpa [packV] using h1
    | cons h2 t => 
      have := LRel.arel (.cons h1 (.cons h2 t))
      simpa [packV] using VRel.tuple this.1 this.2

theorem results_sound {P : Program} {φ : Ren} {tm : Tr Value} {hp : Tr AObj} {a : Act} {w : World} (ht : TRel φ tm a) (hw : WRel φ hp w) {fn : Func} {vs : List Value} (h : resV P tm hp fn.results.toList = some vs) :
    ∃ v', (results fn a.tmps).run P w = .ok v' w ∧ VRel φ (packV vs) v' := by
  obtain ⟨vs', h1, h2⟩ := resV_sound (a := a) ht hw _ _ h
  refine ⟨_, ?_, packV_rel h2⟩
  unfold results
  rw [Array.mapM_eq_mapM_toList]
  simp only [map_eq_pure_bind, bind_assoc, pure_bind, Sem.run_bind, Sem.run_pure]
  have e : ∀ (s : Sem (List Value)), s.run P w = .ok vs' w → (s.run P w).andThen (fun x w => .ok (if h : x.toArray.size = 1 then x.toArray[0] else .tuple x.toArray) w) = .ok (if h : vs'.toArray.size = 1 then vs'.toArray[0] else .tuple vs'.toArray) w := fun s hs => by rw [hs]; rfl
  exact e _ h1

/-- What a list of states that a body ends in hands back, where no call was put off. -/
def retsN (P : Program) (fn : Func) : List Co → Option (List Out)
  | [] => some []
  | o :: os => match o.ex, o.st.df with
    | .normal, [] | .ret, [] => match resV P o.st.tm o.st.hp fn.results.toList with
      | some vs => match retsN P fn os with
        | some rs => some (⟨some (packV vs), o.st.hp, o.st.nx⟩ :: rs)
        | none => none
      | none => none
    | _, _ => none

theorem retsN_mem {P : Program} {fn : Func} : ∀ {os : List Co} {rs : List Out}, retsN P fn os = some rs → ∀ o ∈ os, (o.ex = .normal ∨ o.ex = .ret) ∧ o.st.df = [] ∧ ∃ vs, resV P o.st.tm o.st.hp fn.results.toList = some vs ∧ (⟨some (packV vs), o.st.hp, o.st.nx⟩ : Out) ∈ rs := by
  intro os
  induction os with
  | nil => intro rs h o ho; cases ho
  | cons x xs ih =>
    intro rs h o ho
    simp only [retsN] at h
    have step : ∀ (hx : x.ex = .normal ∨ x.ex = .ret) (hd : x.st.df = []), (match resV P x.st.tm x.st.hp fn.results.toList with
      | some vs => match retsN P fn xs with
        | some rs => some ((⟨some (packV vs), x.st.hp, x.st.nx⟩ : Out) :: rs)
        | none => none
      | none => none) = some rs → (o.ex = .normal ∨ o.ex = .ret) ∧ o.st.df = [] ∧ ∃ vs, resV P o.st.tm o.st.hp fn.results.toList = some vs ∧ (⟨some (packV vs), o.st.hp, o.st.nx⟩ : Out) ∈ rs := by
      intro hx hd h
      split at h
      · rename_i vs hv
        split at h
        · rename_i rs' hr
          cases h
          rcases List.mem_cons.1 ho with rfl | ho
          · exact ⟨hx, hd, vs, hv, List.mem_cons_self ..⟩
          · obtain ⟨a1, a2, vs, a3, a4⟩ := ih hr o ho
            exact ⟨a1, a2, vs, a3, List.mem_cons_of_mem _ a4⟩
        · cases h
      · cases h
    split at h
    · rename_i h1 h2; exact step (.inl h1) h2 h
    · rename_i h1 h2; exact step (.inr h1) h2 h
    · cases h

/-! ### Calls that were put off -/
/-- Memory behind the calls that were put off, one after the other. -/
def runDf (cd : CF) : List ADef → Tr AObj → Nat → Option (List (Tr AObj × Nat))
  | [], hp, nx => some [(hp, nx)]
  | d :: ds, hp, nx => match cd d.f d.l hp nx with
    | some outs => andAll (fun r => runDf cd ds r.hp r.nx) outs
    | none => none

/-- What is asked of a call that was put off. -/
def DSound (P : Program) (G : Nat) (cd : CF) : Prop :=
  ∀ f l hp nx outs, cd f l hp nx = some outs → ∀ φ w (args : Array Value), GRel G φ → LRel φ l args.toList → WRel φ hp w → (∀ i, φ i ≠ none → i < nx) →
    (callFunc f args).run P w = .ok (.enter f args) w ∧ CallsD P f args .returning w (fun e u' w' => u' = .returning ∧ match e with | .returned v => Back φ hp w outs v w' | _ => False)

theorem leaves_sound {P : Program} {G : Nat} {cd : CF} (hcd : DSound P G cd) {fn : Func} {a : Act} {tm : Tr Value} {R : Ending → World → Prop} : ∀ (ds : List ADef) (ds' : List Deferred) (hp : Tr AObj) (nx : Nat) (ms : List (Tr AObj × Nat)), runDf cd ds hp nx = some ms → ∀ (φ : Ren) (w : World),
    GRel G φ → All2 (DRel φ) ds ds' → TRel φ tm a → WRel φ hp w → (∀ i, φ i ≠ none → i < nx) →
    (∀ m ∈ ms, ∀ φ' w', Ext φ hp w φ' m.1 w' → WRel φ' m.1 w' → TRel φ' tm a → (∀ i, φ' i ≠ none → i < m.2) → ∃ v, (results fn a.tmps).run P w' = .ok v w' ∧ R (.returned v) w') → Leaves P fn a.tmps R ds' .returning w := by
  intro ds
  induction ds with
  | nil =>
    intro ds' hp nx ms h φ w hG hd ht hw hb hK
    cases hd
    cases h
    exact hK _ (List.mem_singleton.2 rfl) φ w (Ext.refl _ _ _) hw ht hb
  | cons d ds ih =>
    intro ds' hp nx ms h φ w hG hd ht hw hb hK
    simp only [runDf] at h
    split at h
    · rename_i outs ho
      cases hd with
      | cons h1 h2 =>
        obtain ⟨cap, args, rfl, hl⟩ := h1
        obtain ⟨g1, g2⟩ := hcd _ _ _ _ _ ho φ w _ hG hl hw hb
        refine leaves_cons (by intro hh; cases hh) (f := d.f) (args := args ++ cap) ?_ (g2.mono fun e u' w' he => ?_)
        · simpa [invoke] using g1
        · obtain ⟨rfl, he⟩ := he
          cases e with
          | returned v =>
            obtain ⟨r, hr, φ', v', _, k1, k2, k3, _⟩ := he
            obtain ⟨zs, z1, z2⟩ := andAll_mem h r hr
            exact ih _ _ _ _ z1 φ' w' (hG.mono k1.le) (All2.mono (fun _ _ => DRel.mono k1.le) h2) (ht.mono k1.le) k2 k3 fun m hm φ2 w2 x1 x2 x3 x4 => hK m (z2 m hm) φ2 w2 (k1.trans x1) x2 x3 x4
          | panicked c => exact he.elim
          | outgrown => exact he.elim
    · cases h

/-- What comes back from states of memory. -/
def outsV (P : Program) (fn : Func) (tm : Tr Value) : List (Tr AObj × Nat) → Option (List Out)
  | [] => some []
  | m :: ms => match resV P tm m.1 fn.results.toList with
    | some vs => match outsV P fn tm ms with
      | some rs => some (⟨some (packV vs), m.1, m.2⟩ :: rs)
      | none => none
    | none => none

theorem outsV_mem {P : Program} {fn : Func} {tm : Tr Value} : ∀ {ms : List (Tr AObj × Nat)} {rs : List Out}, outsV P fn tm ms = some rs → ∀ m ∈ ms, ∃ vs, resV P tm m.1 fn.results.toList = some vs ∧ (⟨some (packV vs), m.1, m.2⟩ : Out) ∈ rs := by
  intro ms
  induction ms with
  | nil => intro rs h m hm; cases hm
  | cons x xs ih =>
    intro rs h m hm
    simp only [outsV] at h
    split at h
    · rename_i vs hv
      split at h
      · rename_i rs' hr
        cases h
        rcases List.mem_cons.1 hm with rfl | hm
        · exact ⟨vs, hv, List.mem_cons_self ..⟩
        · obtain ⟨us, h1, h2⟩ := ih hr m hm
          exact ⟨us, h1, List.mem_cons_of_mem _ h2⟩
      · cases h
    · cases h

/-- What a list of states that a body ends in hands back. -/
def rets (P : Program) (fn : Func) (cd : CF) : List Co → Option (List Out)
  | [] => some []
  | o :: os => match o.ex with
    | .normal | .ret => match runDf cd o.st.df o.st.hp o.st.nx with
      | some ms => match outsV P fn o.st.tm ms with
        | some r1 => match rets P fn cd os with
          | some rs => some (r1 ++ rs)
          | none => none
        | none => none
      | none => none
    | _ => none

theorem rets_mem {P : Program} {fn : Func} {cd : CF} : ∀ {os : List Co} {rs : List Out}, rets P fn cd os = some rs → ∀ o ∈ os, (o.ex = .normal ∨ o.ex = .ret) ∧ ∃ ms r1, runDf cd o.st.df o.st.hp o.st.nx = some ms ∧ outsV P fn o.st.tm ms = some r1 ∧ ∀ r ∈ r1, r ∈ rs := by
  intro os
  induction os with
  | nil => intro rs h o ho; cases ho
  | cons x xs ih =>
    intro rs h o ho
    simp only [rets] at h
    have step : ∀ (hx : x.ex = .normal ∨ x.ex = .ret), (match runDf cd x.st.df x.st.hp x.st.nx with
      | some ms => match outsV P fn x.st.tm ms with
        | some r1 => match rets P fn cd xs with
          | some rs => some (r1 ++ rs)
          | none => none
        | none => none
      | none => none) = some rs → (o.ex = .normal ∨ o.ex = .ret) ∧ ∃ ms r1, runDf cd o.st.df o.st.hp o.st.nx = some ms ∧ outsV P fn o.st.tm ms = some r1 ∧ ∀ r ∈ r1, r ∈ rs := by
      intro hx h
      split at h
      · rename_i ms hm
        split at h
        · rename_i r1 hr1
          split at h
          · rename_i rs' hr
            cases h
            rcases List.mem_cons.1 ho with rfl | ho
            · exact ⟨hx, ms, r1, hm, hr1, fun r hr => List.mem_append_left _ hr⟩
            · obtain ⟨a1, ms', r1', a2, a3, a4⟩ := ih hr o ho
              exact ⟨a1, ms', r1', a2, a3, fun r hr => List.mem_append_right _ (a4 r hr)⟩
          · cases h
        · cases h
      · cases h
    split at h
    · rename_i h1; exact step (.inl h1) h
    · rename_i h1; exact step (.inr h1) h
    · cases h

def entryT : List Value → Nat → Tr Value → Tr Value
  | [], _, t => t
  | v :: vs, i, t => entryT vs (i + 1) (t.set i (some v))

theorem entryT_get : ∀ (vs : List Value) (i : Nat) (t : Tr Value) (k : Nat), (entryT vs i t).get k = if i ≤ k ∧ k < i + vs.length then vs[k - i]? else t.get k := by
  intro vs
  induction vs with
  | nil => intro i t k; simp [entryT]; omega
  | cons v vs ih =>
    intro i t k
    simp only [entryT, ih, Tr.get_set, List.length_cons]
    by_cases h1 : i + 1 ≤ k ∧ k < i + 1 + vs.length
    · rw [if_pos h1, if_pos (by omega)]
      have : k - i = (k - (i + 1)) + 1 := by omega
      rw [this, List.getElem?_cons_succ]
    · rw [if_neg h1]
      by_cases h2 : k = i
      · subst h2; simp
      · rw [if_neg h2, if_neg (by omega)]

theorem entry_rel {φ : Ren} {l : List Value} {args : Array Value} (h : LRel φ l args.toList) (n : Nat) : TRel φ (entryT l 0 .nil) { tmps := args ++ Array.replicate n undef, defers := [] } := by
  intro t v hv
  rw [entryT_get, Tr.get_nil] at hv
  have hlen := h.length
  simp only [Array.length_toList] at hlen
  by_cases ht : t < l.length
  · rw [if_pos (by omega)] at hv
    have h2 : args.toList[t]? = some (args[t]'(by omega)) := by simp [show t < args.size by omega]
    have := h.get? t _ _ (by simpa using hv) h2
    simpa [Array.getElem?_append, show t < args.size by omega] using this
  · rw [if_neg (by omega)] at hv
    cases hv

/-- The functions that the model answers on the spot. -/
abbrev XF := CF

/-- A call that was put off, and puts none off itself. -/
def dCall (P : Program) (G fuel : Nat) (cf : CF) : CF := fun f l hp nx =>
  match P.funcs[f]? with
  | none => none
  | some fn => match fn.body with
    | none => none
    | some c => bif Nat.ble l.length fn.ntmps then
        match codeA P G fn.ntmps cf fuel c ⟨entryT l 0 .nil, hp, nx, []⟩ with
        | some outs => retsN P fn outs
        | none => none
      else none

def callA (P : Program) (G fuel : Nat) (xf : XF) : Nat → CF
  | 0, _, _, _, _ => none
  | n + 1, f, l, hp, nx => match P.funcs[f]? with
    | none => none
    | some fn => match fn.body with
      | none => xf f l hp nx
      | some c => bif Nat.ble l.length fn.ntmps then
          match codeA P G fn.ntmps (callA P G fuel xf n) fuel c ⟨entryT l 0 .nil, hp, nx, []⟩ with
          | some outs => rets P fn (dCall P G fuel (callA P G fuel xf n)) outs
          | none => none
        else none

theorem dCall_sound {P : Program} {G fuel : Nat} {cf : CF} (hm : P.follows .mixedOrders = true) (hname : ∀ (f : Nat) (fn : Func), P.funcs[f]? = some fn → (fn.name == "runtime.NumGoroutine") = false) (hcf : CSound P G cf) : DSound P G (dCall P G fuel cf) := by
  intro f l hp nx outs h φ w args hG hl hw hb
  simp only [dCall] at h
  split at h
  · cases h
  · rename_i fn hf
    split at h
    · cases h
    · rename_i c hc
      cases hlen : Nat.ble l.length fn.ntmps with
      | false => simp [hlen] at h
      | true =>
        simp only [hlen, cond_true] at h
        have hle : l.length ≤ fn.ntmps := Nat.le_of_ble_eq_true hlen
        have hsz := hl.length
        simp only [Array.length_toList] at hsz
        split at h
        · rename_i os ho
          refine ⟨?_, ?_⟩
          · simp only [callFunc, Sem.run_bind, run_program, Result.andThen_ok, hf, hname f fn hf, hc]
            rfl
          · refine (callsD_of_wp (R := fun e w' => match e with | .returned v => Back φ hp w outs v w' | _ => False) hf hc (wp_mono ((codeA_sound hm hcf fuel).1 c _ os ho (φ := φ) ⟨hG, entry_rel hl _, hw, hb, by simp; omega, .nil⟩) fun e a' w' he => ?_)).mono fun e u' w' he => he
            obtain ⟨r, hr, rfl, φ', hxx, hs⟩ := he
            obtain ⟨k1, k2, vs, k3, k4⟩ := retsN_mem h r hr
            have hd : a'.defers = [] := by
              have := hs.d.length
              rw [k2] at this
              exact List.eq_nil_of_length_eq_zero this.symm
            obtain ⟨v', g1, g2⟩ := results_sound hs.t hs.h k3
            have fin : a'.defers = [] ∧ ∃ v, (results fn a'.tmps).run P w' = .ok v w' ∧ Back φ hp w outs v w' := ⟨hd, v', g1, _, k4, φ', packV vs, rfl, hxx, hs.h, hs.b, g2⟩
            rcases k1 with e | e <;> rw [e] <;> exact fin
        · cases h

/-- Behind a body: the calls put off, then what is handed back. -/
theorem body_sound {P : Program} {G nt : Nat} {cd : CF} (hcd : DSound P G cd) {fn : Func} {os : List Co} {outs : List Out} (h : rets P fn cd os = some outs) {φ : Ren} {hp : Tr AObj} {w : World} {e : Exit} {a' : Act} {w' : World} (hG : GRel G φ) (he : Ends G nt φ hp w os e a' w') :
    bodyPostD P fn (fun e w' => match e with | .returned v => Back φ hp w outs v w' | _ => False) e a' w' := by
  obtain ⟨r, hr, rfl, φ', hxx, hs⟩ := he
  obtain ⟨k1, ms, r1, k2, k3, k4⟩ := rets_mem h r hr
  have fin : Leaves P fn a'.tmps (fun e w' => match e with | .returned v => Back φ hp w outs v w' | _ => False) a'.defers .returning w' := by
    refine leaves_sound hcd _ _ _ _ ms k2 φ' w' hs.g hs.d hs.t hs.h hs.b fun m hm φ2 w2 x1 x2 x3 x4 => ?_
    obtain ⟨vs, g1, g2⟩ := outsV_mem k3 m hm
    obtain ⟨v', g3, g4⟩ := results_sound x3 x2 g1
    exact ⟨v', g3, _, k4 _ g2, φ2, packV vs, rfl, hxx.trans x1, x2, x4, g4⟩
  rcases k1 with e | e <;> rw [e] <;> exact fin

theorem callA_sound {P : Program} {G fuel : Nat} {xf : XF} (hm : P.follows .mixedOrders = true) (hname : ∀ (f : Nat) (fn : Func), P.funcs[f]? = some fn → (fn.name == "runtime.NumGoroutine") = false) (hx : CSound P G xf) : ∀ n, CSound P G (callA P G fuel xf n) := by
  intro n
  induction n with
  | zero => intro f l hp nx outs h; cases h
  | succ n ih =>
    intro f l hp nx outs h φ w args hG hl hw hb
    simp only [callA] at h
    split at h
    · cases h
    · rename_i fn hf
      split at h
      · exact hx f l hp nx outs h φ w args hG hl hw hb
      · rename_i c hc
        cases hlen : Nat.ble l.length fn.ntmps with
        | false => simp [hlen] at h
        | true =>
          simp only [hlen, cond_true] at h
          have hle : l.length ≤ fn.ntmps := Nat.le_of_ble_eq_true hlen
          have hsz := hl.length
          simp only [Array.length_toList] at hsz
          split at h
          · rename_i os ho
            refine .inl ⟨?_, ?_⟩
            · simp only [callFunc, Sem.run_bind, run_program, Result.andThen_ok, hf, hname f fn hf, hc]
              rfl
            · exact calls_of_wp_defers hf hc (wp_mono ((codeA_sound hm ih fuel).1 c _ os ho (φ := φ) ⟨hG, entry_rel hl _, hw, hb, by simp; omega, .nil⟩) fun e a' w' he => body_sound (dCall_sound hm hname ih) h hG he)
          · cases h
end Go.Proofs.YtkjkoejnicbieaaGreat.AM

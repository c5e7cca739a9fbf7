/-
  THE ABSTRACT MACHINE, part 6: what maps hold; equality; lengths.
-/
import Derived.Test.YtkjkoejnicbieaaGreatAm5
namespace Go.Proofs.YtkjkoejnicbieaaGreat.AM
open Go Go.RowKit

/-! ### Keys of maps -/
def keyEq (P : Program) (kt : TypeId) (a b : Value) : Option Bool := eqIn P 10000 kt a b

theorem keyEq_equal {P : Program} {kt : TypeId} {a b : Value} {r : Bool} (h : keyEq P kt a b = some r) (ha : cst 8 a = true) (hb : cst 8 b = true) (w : World) : (Op.equal kt a b).run P w = .ok r w :=
  eqIn_sound (φ := fun _ => none) 10000 kt a b a b r h (cst_rel _ 8 a ha) (cst_rel _ 8 b hb)

theorem eqIn_succ (P : Program) (d : Nat) (t : TypeId) (x y : Value) : eqIn P (d + 1) t x y =
    match P.underlying t, x, y with
    | some .bool, .bool a, .bool b => some (a == b)
    | some (.int _), .int k a, .int k' b => if k = k' then some (a == b) else none
    | some .string, .string a, .string b => some (strEq a.data.toList b.data.toList)
    | some (.struct fields), .agg xs, .agg ys => if P.stoodInHeld t then none else eqFieldsA P (eqIn P d) xs ys fields.toList
    | some (.array len e), .agg xs, .agg ys => match szOf P e with
      | some n => eqElemsA P (eqIn P d) e n xs ys len 0
      | none => none
    | _, _, _ => none := rfl

/-- How the model's first look at a key goes, where the key is one number, string or bool. -/
theorem sameNow_of {P : Program} {kt : TypeId} {a b : Value} {r : Bool} {d : TypeDesc} (hu : P.underlying kt = some d) (h : keyEq P kt a b = some r) :
    Instr.sameNow d a b = some r ∨ (Instr.sameNow d a b = none ∧ ∀ x y, Instr.sameNow d x y = none) := by
  unfold keyEq at h
  rw [show (10000 : Nat) = 9999 + 1 from rfl, eqIn_succ, hu] at h
  split at h
  · rename_i e1; cases Option.some.inj e1; left; simpa [Instr.sameNow] using h
  · rename_i e1; cases Option.some.inj e1; left
    split at h
    · rename_i hk; simp [Instr.sameNow, hk]; simpa using h
    · cases h
  · rename_i x y e1
    cases Option.some.inj e1
    left
    simp only [Instr.sameNow]
    rw [beq_toListBytes, ByteArray.toList_eq, ByteArray.toList_eq, strEq_eq]; exact h
  · rename_i e1; cases Option.some.inj e1; right; exact ⟨rfl, fun x y => by cases x <;> cases y <;> rfl⟩
  · rename_i e1; cases Option.some.inj e1; right; exact ⟨rfl, fun x y => by cases x <;> cases y <;> rfl⟩
  · cases h

/-- The first entry whose key is the one that is asked for. -/
def firstHit (P : Program) (kt : TypeId) (k : Value) : List MapEntry → Nat → Option (Nat × Value)
  | [], _ => none
  | e :: es, i => if keyEq P kt k e.key = some true then some (i, e.val) else firstHit P kt k es (i + 1)

theorem findAsking_hit {P : Program} {kt : TypeId} {k : Value} (hk : cst 8 k = true) (w : World) : ∀ (es : List MapEntry) (i : Nat), (∀ e ∈ es, (∃ b, keyEq P kt k e.key = some b) ∧ cst 8 e.key = true) →
    (Instr.findAsking kt k es i).run P w = .ok (firstHit P kt k es i) w := by
  intro es
  induction es with
  | nil => intro i _; simp [Instr.findAsking, firstHit]
  | cons e es ih =>
    intro i h
    obtain ⟨⟨b, hb⟩, hc⟩ := h e (by simp)
    have := keyEq_equal hb hk hc w
    have ih' := ih (i + 1) fun x hx => h x (by simp [hx])
    cases b with
    | true => simp [Instr.findAsking, firstHit, this, hb]
    | false => simp [Instr.findAsking, firstHit, this, hb, ih']

theorem findKey_hit {P : Program} {kt : TypeId} {d : TypeDesc} (hu : P.underlying kt = some d) {k : Value} (hk : cst 8 k = true) (w : World) (es : List MapEntry)
    (h : ∀ e ∈ es, (∃ b, keyEq P kt k e.key = some b) ∧ cst 8 e.key = true) : (Instr.findKey kt k es).run P w = .ok (firstHit P kt k es 0) w := by
  have key : ∀ (l : List MapEntry) (i : Nat), (∀ e ∈ l, (∃ b, keyEq P kt k e.key = some b) ∧ cst 8 e.key = true) → Instr.findNow d k l i = some (firstHit P kt k l i) ∨ Instr.findNow d k l i = none := by
    intro l
    induction l with
    | nil => intro i _; left; rfl
    | cons e l ih =>
      intro i hl
      obtain ⟨⟨b, hb⟩, _⟩ := hl e (by simp)
      rcases sameNow_of hu hb with hs | ⟨hs, _⟩
      · cases b with
        | true => left; simp [Instr.findNow, hs, firstHit, hb]
        | false =>
          rcases ih (i + 1) fun x hx => hl x (by simp [hx]) with g | g
          · left; simp [Instr.findNow, hs, firstHit, hb, g]
          · right; simp [Instr.findNow, hs, g]
      · right; simp [Instr.findNow, hs]
  unfold Instr.findKey
  rcases key es 0 h with g | g
  · simp [run_underlying hu, g]
  · simp [run_underlying hu, g, findAsking_hit hk w es 0 h]

/-! ### May a value be a key? -/
def ckFieldsA (P : Program) (ck : TypeId → Value → Bool) (cs : Array Value) : List Field → Bool
  | [] => true
  | f :: fs => if f.name ≠ "_" then
      match partA P f.type cs f.offset with
      | some a => bif ck f.type a then ckFieldsA P ck cs fs else false
      | none => false
    else ckFieldsA P ck cs fs

def ckElemsA (P : Program) (ck : TypeId → Value → Bool) (e : TypeId) (n : Nat) (cs : Array Value) : Nat → Nat → Bool
  | 0, _ => true
  | m + 1, i => match partA P e cs (i * n) with
      | some a => bif ck e a then ckElemsA P ck e n cs m (i + 1) else false
      | none => false

def ckA (P : Program) : Nat → TypeId → Value → Bool
  | 0, _, _ => false
  | d + 1, t, v => match P.underlying t with
    | some (.struct fields) => match v with
      | .agg cs => ckFieldsA P (ckA P d) cs fields.toList
      | _ => false
    | some (.array len e) => match v with
      | .agg cs => match szOf P e with
        | some n => ckElemsA P (ckA P d) e n cs len 0
        | none => false
      | _ => false
    | some (.int _) | some .string | some .bool => true
    | _ => false

theorem ckA_sound {P : Program} {w : World} (em : Bool) : ∀ (d : Nat) (t : TypeId) (v : Value), ckA P d t v = true → (Instr.checkKey em d t v).run P w = .ok () w := by
  intro d
  induction d with
  | zero => intro t v h; simp [ckA] at h
  | succ d ih =>
    intro t v h
    simp only [ckA] at h
    have same : ∀ cs : Array Value, (∀ i (h : i < cs.size), VRel (fun _ => none) cs[i] cs[i]) ∨ True := fun _ => .inr trivial
    have parts : ∀ (t : TypeId) (cs : Array Value) (off : Nat) (a : Value), partA P t cs off = some a → (part t cs off).run P w = .ok a w := by
      intro t cs off a ha
      unfold partA at ha
      cases hag : aggT P t with
      | none => simp [hag] at ha
      | some ag =>
        cases ag with
        | false => simp [hag] at ha; simp [part, run_isAgg hag, ha]
        | true =>
          simp [hag] at ha
          cases hs : szOf P t with
          | none => simp [hs] at ha
          | some n =>
            simp [hs] at ha
            subst ha
            simp [part, run_isAgg hag, run_sizeOf hs, extract_list]
    split at h
    · rename_i fields hu
      split at h
      · rename_i cs
        simp only [Instr.checkKey, Sem.run_bind, run_underlying hu, Result.andThen_ok]
        rw [← Array.forIn_toList]
        generalize fields.toList = fs at h
        induction fs with
        | nil => simp
        | cons f fs ihf =>
          simp only [ckFieldsA] at h
          simp only [List.forIn_cons, Sem.run_bind]
          by_cases hn : f.name ≠ "_"
          · rw [if_pos hn] at h ⊢
            cases ha : partA P f.type cs f.offset with
            | none => simp [ha] at h
            | some a =>
              simp only [ha] at h
              cases hc : ckA P d f.type a with
              | false => simp [hc] at h
              | true =>
                simp only [hc, cond_true] at h
                have e2 := ih f.type a hc
                have := ihf h
                simp only [Sem.run_bind, parts _ _ _ _ ha, Result.andThen_ok, e2, Sem.run_pure]
                exact this
          · rw [if_neg hn] at h ⊢
            have := ihf h
            simp only [Sem.run_pure, Result.andThen_ok]
            exact this
      · cases h
    · rename_i len e hu
      split at h
      · rename_i cs
        split at h
        · rename_i n hs
          simp only [Instr.checkKey, Sem.run_bind, run_underlying hu, Result.andThen_ok]
          rw [Std.Legacy.Range.forIn_eq_forIn_range']
          simp only [Std.Legacy.Range.size, Nat.sub_zero, Nat.add_one_sub_one, Nat.div_one]
          generalize 0 = i0 at h ⊢
          clear hu
          induction len generalizing i0 with
          | zero => simp
          | succ m ihm =>
            simp only [ckElemsA] at h
            cases ha : partA P e cs (i0 * n) with
            | none => simp [ha] at h
            | some a =>
              simp only [ha] at h
              cases hc : ckA P d e a with
              | false => simp [hc] at h
              | true =>
                simp only [hc, cond_true] at h
                have e2 := ih e a hc
                have := ihm (i0 + 1) h
                simp only [List.range'_succ, List.forIn_cons, Sem.run_bind, run_sizeOf hs, parts _ _ _ _ ha, Result.andThen_ok, e2, Sem.run_pure]
                exact this
        · cases h
      · cases h
    · rename_i hu; cases v <;> simp [Instr.checkKey, run_underlying hu]
    · rename_i hu; cases v <;> simp [Instr.checkKey, run_underlying hu]
    · rename_i hu; cases v <;> simp [Instr.checkKey, run_underlying hu]
    · cases h

/-! ### What is found in a map -/
def hits (P : Program) (kt : TypeId) (k : Value) : List (Value × Value) → Option (List Value)
  | [] => some []
  | (k0, v) :: r => bif cst 8 k0 then
      match keyEq P kt k k0 with
      | some true => match hits P kt k r with
        | some l => some (v :: l)
        | none => none
      | some false => hits P kt k r
      | none => none
    else none

theorem hits_all {P : Program} {kt : TypeId} {k : Value} : ∀ (es : List (Value × Value)) (l : List Value), hits P kt k es = some l →
    (∀ e ∈ es, (∃ b, keyEq P kt k e.1 = some b) ∧ cst 8 e.1 = true) ∧ (∀ e ∈ es, keyEq P kt k e.1 = some true → e.2 ∈ l) ∧ (∀ v ∈ l, ∃ e ∈ es, keyEq P kt k e.1 = some true ∧ e.2 = v) := by
  intro es
  induction es with
  | nil => intro l h; simp [hits] at h; subst h; simp
  | cons e es ih =>
    intro l h
    obtain ⟨k0, v⟩ := e
    simp only [hits] at h
    cases hc : cst 8 k0 with
    | false => simp [hc] at h
    | true =>
      simp only [hc, cond_true] at h
      cases hq : keyEq P kt k k0 with
      | none => simp [hq] at h
      | some b =>
        cases b with
        | true =>
          simp only [hq] at h
          cases hr : hits P kt k es with
          | none => simp [hr] at h
          | some l0 =>
            simp [hr] at h
            subst h
            obtain ⟨a1, a2, a3⟩ := ih l0 hr
            refine ⟨?_, ?_, ?_⟩
            · intro e he
              rcases List.mem_cons.1 he with rfl | he
              · exact ⟨⟨true, hq⟩, hc⟩
              · exact a1 e he
            · intro e he hh
              rcases List.mem_cons.1 he with rfl | he
              · simp
              · simp [a2 e he hh]
            · intro x hx
              rcases List.mem_cons.1 hx with rfl | hx
              · exact ⟨(k0, x), by simp, hq, rfl⟩
              · obtain ⟨e, h1, h2⟩ := a3 x hx
                exact ⟨e, by simp [h1], h2⟩
        | false =>
          simp only [hq] at h
          obtain ⟨a1, a2, a3⟩ := ih l h
          refine ⟨?_, ?_, ?_⟩
          · intro e he
            rcases List.mem_cons.1 he with rfl | he
            · exact ⟨⟨false, hq⟩, hc⟩
            · exact a1 e he
          · intro e he hh
            rcases List.mem_cons.1 he with rfl | he
            · simp only at hh; rw [hq] at hh; cases hh
            · exact a2 e he hh
          · intro x hx
            obtain ⟨e, h1, h2⟩ := a3 x hx
            exact ⟨e, by simp [h1], h2⟩

theorem All2.left {α β : Type} {R : α → β → Prop} {as : List α} {bs : List β} (h : All2 R as bs) : ∀ b ∈ bs, ∃ a ∈ as, R a b := by
  induction h with
  | nil => intro b hb; simp at hb
  | cons h _ ih =>
    intro b hb
    rcases List.mem_cons.1 hb with rfl | hb
    · exact ⟨_, by simp, h⟩
    · obtain ⟨a, h1, h2⟩ := ih b hb; exact ⟨a, by simp [h1], h2⟩

theorem All2.right {α β : Type} {R : α → β → Prop} {as : List α} {bs : List β} (h : All2 R as bs) : ∀ a ∈ as, ∃ b ∈ bs, R a b := by
  induction h with
  | nil => intro b hb; simp at hb
  | cons h _ ih =>
    intro b hb
    rcases List.mem_cons.1 hb with rfl | hb
    · exact ⟨_, by simp, h⟩
    · obtain ⟨a, h1, h2⟩ := ih b hb; exact ⟨a, by simp [h1], h2⟩

theorem firstHit_some {P : Program} {kt : TypeId} {k : Value} : ∀ (es : List MapEntry) (i j : Nat) (v : Value), firstHit P kt k es i = some (j, v) → i ≤ j ∧ ∃ m, es[j - i]? = some m ∧ keyEq P kt k m.key = some true ∧ m.val = v := by
  intro es
  induction es with
  | nil => intro i j v h; simp [firstHit] at h
  | cons e es ih =>
    intro i j v h
    simp only [firstHit] at h
    split at h
    · rename_i hk
      simp at h
      obtain ⟨rfl, rfl⟩ := h
      exact ⟨Nat.le_refl _, e, by simp, hk, rfl⟩
    · obtain ⟨h1, m, h2, h3⟩ := ih (i + 1) j v h
      refine ⟨by omega, m, ?_, h3⟩
      have : j - i = (j - (i + 1)) + 1 := by omega
      rw [this]; simpa using h2

theorem firstHit_none {P : Program} {kt : TypeId} {k : Value} : ∀ (es : List MapEntry) (i : Nat), firstHit P kt k es i = none → ∀ m ∈ es, keyEq P kt k m.key ≠ some true := by
  intro es
  induction es with
  | nil => intro i _ m hm; simp at hm
  | cons e es ih =>
    intro i h m hm
    simp only [firstHit] at h
    split at h
    · cases h
    · rename_i hk
      rcases List.mem_cons.1 hm with rfl | hm
      · exact hk
      · exact ih _ h m hm

/-- What the model finds in a map, where the abstract machine finds one value, or none. -/
theorem find_sound {P : Program} {φ : Ren} {kt : TypeId} {d : TypeDesc} (hu : P.underlying kt = some d) {k : Value} (hk : cst 8 k = true) {es : List (Value × Value)} {clock : Nat} {es' : List MapEntry} (hm : MRel φ es clock es')
    {l : List Value} (hh : hits P kt k es = some l) (w : World) : (Instr.findKey kt k es').run P w = .ok (firstHit P kt k es' 0) w ∧
      (l = [] → firstHit P kt k es' 0 = none) ∧ (∀ v, l = [v] → ∃ j v', firstHit P kt k es' 0 = some (j, v') ∧ VRel φ v v') := by
  obtain ⟨p, hp, ha, _, _⟩ := hm
  obtain ⟨a1, a2, a3⟩ := hits_all es l hh
  have mem : ∀ m ∈ es', ∃ e ∈ es, m.key = e.1 ∧ VRel φ e.2 m.val := fun m hm => All2.left ha m (hp.mem_iff.2 hm)
  refine ⟨findKey_hit hu hk w es' fun m hm => ?_, fun hl => ?_, fun v hl => ?_⟩
  · obtain ⟨e, he, hke, _⟩ := mem m hm
    rw [hke]; exact a1 e he
  · subst hl
    cases hf : firstHit P kt k es' 0 with
    | none => rfl
    | some r =>
      obtain ⟨j, v⟩ := r
      obtain ⟨_, m, g1, g2, _⟩ := firstHit_some es' 0 j v hf
      obtain ⟨e, he, hke, _⟩ := mem m (List.mem_of_getElem? g1)
      rw [hke] at g2
      exact absurd (a2 e he g2) (by simp)
  · subst hl
    cases hf : firstHit P kt k es' 0 with
    | none =>
      obtain ⟨e, he, hq, _⟩ := a3 v (by simp)
      obtain ⟨m, hm1, hm2, _⟩ := All2.right ha e he
      have := firstHit_none es' 0 hf m (hp.mem_iff.1 hm1)
      rw [hm2] at this
      exact absurd hq this
    | some r =>
      obtain ⟨j, v'⟩ := r
      obtain ⟨_, m, g1, g2, g3⟩ := firstHit_some es' 0 j v' hf
      obtain ⟨e, he, hke, hv⟩ := mem m (List.mem_of_getElem? g1)
      rw [hke] at g2
      have := a2 e he g2
      simp at this
      exact ⟨j, v', rfl, by rw [← this, ← g3]; exact hv⟩

theorem cst_eq {φ : Ren} {n : Nat} {u v : Value} (hc : cst n u = true) (h : VRel φ u v) : v = u := by
  induction n generalizing u v with
  | zero => cases h <;> first | rfl | (simp [cst] at hc)
  | succ n ih =>
    have arr : ∀ as bs : Array Value, as.toList.all (cst n) = true → ARel φ as bs → bs = as := by
      intro as bs ha hr
      apply Array.ext hr.1.symm
      intro i hi hi'
      rw [List.all_eq_true] at ha
      exact ih (ha _ (by simp)) (hr.2 i hi' hi)
    cases h with
    | iface t h => rw [ih (by simpa [cst] using hc) h]
    | agg h1 h2 => rw [arr _ _ (by simpa [cst] using hc) ⟨h1, h2⟩]
    | tuple h1 h2 => rw [arr _ _ (by simpa [cst] using hc) ⟨h1, h2⟩]
    | bool => rfl
    | int => rfl
    | float => rfl
    | string => rfl
    | pnil => rfl
    | snil => rfl
    | mnil => rfl
    | nilFunc => rfl
    | nilIface => rfl
    | ptr => simp [cst] at hc
    | slice => simp [cst] at hc
    | sopen => simp [cst] at hc
    | szero => simp [cst] at hc
    | map => simp [cst] at hc
    | func => simp [cst] at hc

def mapAt (hp : Tr AObj) (m : Value) : Option (List (Value × Value)) :=
  match m with
  | .map none => some []
  | .map (some r) => match hp.get r with
    | some (.map es _) => some es
    | _ => none
  | _ => none

def lookupA (P : Program) (hp : Tr AObj) (t : TypeId) (m k : Value) (ok : Bool) : Option Value :=
  match P.underlying t with
  | some (.map kt et) => bif cst 8 k && ckA P 10000 kt k && (P.underlying kt).isSome then
      match mapAt hp m with
      | none => none
      | some es => match hits P kt k es with
        | some [v] => some (bif ok then .tuple #[v, .bool true] else v)
        | some [] => match zeroOf P et with
          | some z => bif cst 8 z then some (bif ok then .tuple #[z, .bool false] else z) else none
          | none => none
        | _ => none
    else none
  | _ => none

theorem VRel.pair {φ : Ren} {u v : Value} (h : VRel φ u v) (b : Bool) : VRel φ (.tuple #[u, .bool b]) (.tuple #[v, .bool b]) := by
  have := (ARel.single h).push (VRel.bool (φ := φ) b)
  exact .tuple this.1 this.2

theorem lookupA_sound {P : Program} {φ : Ren} {hp : Tr AObj} {w : World} (hw : WRel φ hp w) {t : TypeId} {m m' k k' : Value} (hm : VRel φ m m') (hk : VRel φ k k') {ok : Bool} {v : Value} (h : lookupA P hp t m k ok = some v) :
    ∃ v', (Instr.lookup t m' k' ok).run P w = .ok v' w ∧ VRel φ v v' := by
  unfold lookupA at h
  split at h
  · rename_i kt et hu
    cases hc : (cst 8 k && ckA P 10000 kt k && (P.underlying kt).isSome) with
    | false => simp [hc] at h
    | true =>
      simp only [hc, cond_true] at h
      simp at hc
      obtain ⟨⟨hcst, hck⟩, hsome⟩ := hc
      obtain ⟨d, hd⟩ := Option.isSome_iff_exists.1 hsome
      obtain rfl := cst_eq hcst hk
      -- the entries of the model's map
      have ents : ∀ es, mapAt hp m = some es → ∃ (ea : Array MapEntry) (clock : Nat), MRel φ es clock ea.toList ∧ ((m' = .map none ∧ ea = #[]) ∨ ∃ r ck, m' = .map (some r) ∧ w.heap[r]? = some (.map ea ck)) := by
        intro es he
        cases hm with
        | mnil =>
          simp [mapAt] at he
          subst he
          exact ⟨#[], 0, ⟨[], .refl _, .nil, by simp, by simp, by simp⟩, .inl ⟨rfl, rfl⟩⟩
        | @map r lc hl =>
          simp only [mapAt] at he
          split at he
          · rename_i es0 ck hg
            cases he
            obtain ⟨ea, h1, h2⟩ := hw.obj _ _ _ hg hl
            exact ⟨ea, _, h2, .inr ⟨_, _, rfl, h1⟩⟩
          · cases he
        | _ => simp [mapAt] at he
      cases hma : mapAt hp m with
      | none => simp [hma] at h
      | some es =>
        simp only [hma] at h
        obtain ⟨ea, clock, hrel, hrun⟩ := ents es hma
        cases hh : hits P kt k' es with
        | none => simp [hh] at h
        | some l =>
          simp only [hh] at h
          obtain ⟨f1, f2, f3⟩ := find_sound hd hcst hrel hh w
          have ckr : ∀ em, (Instr.checkKey em 10000 kt k').run P w = .ok () w := fun em => ckA_sound em 10000 kt k' hck
          have main : (Instr.lookup t m' k' ok).run P w = ((match firstHit P kt k' ea.toList 0 with
              | some (_, v) => pure (v, true)
              | none => do pure (← zeroValue et, false) : Sem (Value × Bool)).run P w).andThen fun r w' => .ok (if ok = true then .tuple #[r.1, .bool r.2] else r.1) w' := by
            rcases hrun with ⟨rfl, rfl⟩ | ⟨r, ck, rfl, hb⟩
            · simp only [Instr.lookup, Sem.run_bind, run_underlying hu, Result.andThen_ok, Sem.run_pure, ckr, f1]
              cases firstHit P kt k' (#[] : Array MapEntry).toList 0 with
              | none => cases hz : (zeroValue et).run P w <;> simp [hz]
              | some x => simp
            · simp only [Instr.lookup, Sem.run_bind, run_underlying hu, Result.andThen_ok, Sem.run_pure, getObj, Sem.run, hb, ckr, f1]
              cases firstHit P kt k' ea.toList 0 with
              | none => cases hz : (zeroValue et).run P w <;> simp [hz]
              | some x => simp
          cases l with
          | nil =>
            rw [main, f2 rfl]
            simp only at h
            split at h
            · rename_i z hz
              cases hcz : cst 8 z with
              | false => simp [hcz] at h
              | true =>
                simp only [hcz, cond_true, Option.some.injEq] at h
                subst h
                have hzr := cst_rel φ 8 z hcz
                cases ok with
                | true => exact ⟨_, by simp [run_zeroValue hz], hzr.pair false⟩
                | false => exact ⟨_, by simp [run_zeroValue hz], hzr⟩
            · cases h
          | cons v0 l =>
            cases l with
            | nil =>
              simp only [Option.some.injEq] at h
              subst h
              obtain ⟨j, v', g1, g2⟩ := f3 v0 rfl
              rw [main, g1]
              cases ok with
              | true => exact ⟨_, by simp, g2.pair true⟩
              | false => exact ⟨_, by simp, g2⟩
            | cons v1 l => simp at h
  · cases h

end Go.Proofs.YtkjkoejnicbieaaGreat.AM

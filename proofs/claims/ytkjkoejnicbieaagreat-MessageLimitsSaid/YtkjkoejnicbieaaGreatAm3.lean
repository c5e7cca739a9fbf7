/-
  THE ABSTRACT MACHINE, part 3: operators on numbers, strings and data; parts of structs; equality.
-/
import Derived.Test.YtkjkoejnicbieaaGreatAm2
namespace Go.Proofs.YtkjkoejnicbieaaGreat.AM
open Go Go.RowKit

/-! ### Numbers -/
def binInt (op : BinOp) (k : IntKind) (a : Int) (k' : IntKind) (b : Int) : Option Value :=
  match op with
  | .shl => if b < 0 then none else some (.int k (k.wrap (a * 2 ^ (min b.toNat k.bits))))
  | .shr => if b < 0 then none else some (.int k (a.fdiv (2 ^ (min b.toNat k.bits))))
  | op => if k ≠ k' then none else match op with
    | .add => some (.int k (k.wrap (a + b)))
    | .sub => some (.int k (k.wrap (a - b)))
    | .mul => some (.int k (k.wrap (a * b)))
    | .quo => if b = 0 then none else some (.int k (k.wrap (a.tdiv b)))
    | .rem => if b = 0 then none else some (.int k (a.tmod b))
    | .and => some (.int k (k.wrap (BitVec.ofInt k.bits a &&& BitVec.ofInt k.bits b).toNat))
    | .or => some (.int k (k.wrap (BitVec.ofInt k.bits a ||| BitVec.ofInt k.bits b).toNat))
    | .xor => some (.int k (k.wrap (BitVec.ofInt k.bits a ^^^ BitVec.ofInt k.bits b).toNat))
    | .andNot => some (.int k (k.wrap (BitVec.ofInt k.bits a &&& ~~~BitVec.ofInt k.bits b).toNat))
    | .eql => some (.bool (a == b))
    | .neq => some (.bool (a != b))
    | .lss => some (.bool (a < b))
    | .leq => some (.bool (a ≤ b))
    | .gtr => some (.bool (a > b))
    | .geq => some (.bool (a ≥ b))
    | _ => none

theorem binInt_sound {P : Program} {op : BinOp} {k k' : IntKind} {a b : Int} {v : Value} (h : binInt op k a k' b = some v) (t : TypeId) (w : World) :
    (binOp op t (.int k a) (.int k' b)).run P w = .ok v w ∧ cst 0 v = true := by
  cases op <;> simp only [binInt] at h
  case shl =>
    split at h
    · cases h
    · rename_i hb; cases h; simp [binOp, Op.shift, hb, cst]
  case shr =>
    split at h
    · cases h
    · rename_i hb; cases h; simp [binOp, Op.shift, hb, cst]
  all_goals
    split at h
    · cases h
    · rename_i hk
      have hk : k = k' := Decidable.not_not.1 hk
      subst hk
      first
        | (cases h; simp [binOp, Op.intArith, Op.intCmp, Op.intBits, cst]; done)
        | (split at h
           · cases h
           · rename_i hb
             cases h; simp [binOp, Op.intDiv, hb, cst])

/-! ### Strings -/
def strLess : List UInt8 → List UInt8 → Bool
  | _, [] => false
  | [], _ :: _ => true
  | a :: x, b :: y => bif Nat.blt a.toNat b.toNat then true else bif Nat.beq a.toNat b.toNat then strLess x y else false

theorem strLess_eq : ∀ (x y : List UInt8), Op.bytesLess x y = strLess x y := by
  intro x
  induction x with
  | nil => intro y; cases y <;> rfl
  | cons a x ih =>
    intro y
    cases y with
    | nil => rfl
    | cons b y =>
      simp only [Op.bytesLess, strLess, ih]
      have h1 : decide (a < b) = Nat.blt a.toNat b.toNat := by
        rw [Bool.eq_iff_iff]; simp [UInt8.lt_iff_toNat_lt]
      have h2 : (a == b) = Nat.beq a.toNat b.toNat := by
        rw [Bool.eq_iff_iff]; simp [UInt8.toNat_inj]
      rw [h1, h2]
      cases Nat.blt a.toNat b.toNat <;> cases Nat.beq a.toNat b.toNat <;> simp

def strEq : List UInt8 → List UInt8 → Bool
  | [], [] => true
  | a :: x, b :: y => bif Nat.beq a.toNat b.toNat then strEq x y else false
  | _, _ => false

theorem strEq_eq : ∀ (x y : List UInt8), (x == y) = strEq x y := by
  intro x
  induction x with
  | nil => intro y; cases y <;> rfl
  | cons a x ih =>
    intro y
    cases y with
    | nil => rfl
    | cons b y =>
      have h2 : (a == b) = Nat.beq a.toNat b.toNat := by
        rw [Bool.eq_iff_iff]; simp [UInt8.toNat_inj]
      simp only [List.cons_beq_cons, strEq, ih, h2]
      cases Nat.beq a.toNat b.toNat <;> simp

def binStr (op : BinOp) (x y : ByteArray) : Option Value :=
  match op with
  | .add => if ((x.size + y.size : Nat) : Int) > IntKind.i64.max then none else some (.string ⟨(x.data.toList ++ y.data.toList).toArray⟩)
  | .eql => some (.bool (strEq x.data.toList y.data.toList))
  | .neq => some (.bool (!strEq x.data.toList y.data.toList))
  | .lss => some (.bool (strLess x.data.toList y.data.toList))
  | .leq => some (.bool (strLess x.data.toList y.data.toList || strEq x.data.toList y.data.toList))
  | .gtr => some (.bool !(strLess x.data.toList y.data.toList || strEq x.data.toList y.data.toList))
  | .geq => some (.bool !(strLess x.data.toList y.data.toList))
  | _ => none

theorem binStr_sound {P : Program} {op : BinOp} {x y : ByteArray} {v : Value} (h : binStr op x y = some v) (t : TypeId) (w : World) :
    (binOp op t (.string x) (.string y)).run P w = .ok v w ∧ cst 0 v = true := by
  have e : (x.toList == y.toList) = strEq x.data.toList y.data.toList := by rw [ByteArray.toList_eq, ByteArray.toList_eq, strEq_eq]
  have l : Op.bytesLess x.toList y.toList = strLess x.data.toList y.data.toList := by rw [ByteArray.toList_eq, ByteArray.toList_eq, strLess_eq]
  cases op <;> simp only [binStr] at h
  case add =>
    split at h
    · cases h
    · rename_i hs
      cases h
      refine ⟨?_, rfl⟩
      simp only [binOp, Op.stringOp]
      rw [if_neg hs]
      have : x ++ y = ⟨(x.data.toList ++ y.data.toList).toArray⟩ := by
        apply ByteArray.ext
        apply Array.ext'
        simp [ByteArray.data_append]
      rw [← this]; rfl
  all_goals
    first
      | (cases h; done)
      | (cases h; refine ⟨?_, rfl⟩; simp only [binOp, Op.stringOp, e, l]; rfl)

/-! ### Parts of structs and arrays -/
def partA (P : Program) (t : TypeId) (cs : Array Value) (off : Nat) : Option Value :=
  match aggT P t with
  | some true => match szOf P t with
    | some n => some (.agg ((cs.toList.drop off).take n).toArray)
    | none => none
  | some false => cs[off]?
  | none => none

theorem extract_list (cs : Array Value) (off n : Nat) : cs.extract off (off + n) = ((cs.toList.drop off).take n).toArray := by
  apply Array.ext'
  rw [Array.toList_extract]
  simp [List.extract]

theorem partA_sound {P : Program} {φ : Ren} {t : TypeId} {cs cs' : Array Value} (hc : ARel φ cs cs') {off : Nat} {v : Value} (h : partA P t cs off = some v) (w : World) :
    ∃ v', (part t cs' off).run P w = .ok v' w ∧ VRel φ v v' := by
  unfold partA at h
  cases ha : aggT P t with
  | none => simp [ha] at h
  | some ag =>
    cases ag with
    | false =>
      simp [ha] at h
      obtain ⟨v', h1, h2⟩ := hc.get? h
      exact ⟨v', by simp [part, run_isAgg ha, h1], h2⟩
    | true =>
      simp [ha] at h
      cases hs : szOf P t with
      | none => simp [hs] at h
      | some n =>
        simp [hs] at h
        subst h
        refine ⟨.agg (cs'.extract off (off + n)), by simp [part, run_isAgg ha, run_sizeOf hs], ?_⟩
        have := hc.extract off (off + n)
        rw [extract_list cs] at this
        exact .agg this.1 this.2

/-! ### Equality of data -/
def eqFieldsA (P : Program) (eq : TypeId → Value → Value → Option Bool) (xs ys : Array Value) : List Field → Option Bool
  | [] => some true
  | f :: fs => if f.name ≠ "_" then
      match partA P f.type xs f.offset, partA P f.type ys f.offset with
      | some a, some b => match eq f.type a b with
        | some true => eqFieldsA P eq xs ys fs
        | r => r
      | _, _ => none
    else eqFieldsA P eq xs ys fs

def eqElemsA (P : Program) (eq : TypeId → Value → Value → Option Bool) (e : TypeId) (n : Nat) (xs ys : Array Value) : Nat → Nat → Option Bool
  | 0, _ => some true
  | m + 1, i => match partA P e xs (i * n), partA P e ys (i * n) with
      | some a, some b => match eq e a b with
        | some true => eqElemsA P eq e n xs ys m (i + 1)
        | r => r
      | _, _ => none

def eqIn (P : Program) : Nat → TypeId → Value → Value → Option Bool
  | 0, _, _, _ => none
  | d + 1, t, x, y =>
    match P.underlying t, x, y with
    | some .bool, .bool a, .bool b => some (a == b)
    | some (.int _), .int k a, .int k' b => if k = k' then some (a == b) else none
    | some .string, .string a, .string b => some (strEq a.data.toList b.data.toList)
    | some (.struct fields), .agg xs, .agg ys => if P.stoodInHeld t then none else eqFieldsA P (eqIn P d) xs ys fields.toList
    | some (.array len e), .agg xs, .agg ys => match szOf P e with
      | some n => eqElemsA P (eqIn P d) e n xs ys len 0
      | none => none
    | _, _, _ => none

theorem eqFieldsA_sound {P : Program} {φ : Ren} {d : Nat} {eq : TypeId → Value → Value → Option Bool} {w : World}
    (heq : ∀ t x y x' y' b, eq t x y = some b → VRel φ x x' → VRel φ y y' → (Op.equalIn d t x' y').run P w = .ok b w)
    {xs ys xs' ys' : Array Value} (hx : ARel φ xs xs') (hy : ARel φ ys ys') : ∀ (fs : List Field) (b : Bool), eqFieldsA P eq xs ys fs = some b → (Op.eqFields d xs' ys' fs).run P w = .ok b w := by
  intro fs
  induction fs with
  | nil => intro b h; simp [eqFieldsA] at h; subst h; simp [Op.eqFields]
  | cons f fs ih =>
    intro b h
    simp only [eqFieldsA] at h
    simp only [Op.eqFields]
    by_cases hn : f.name ≠ "_"
    · rw [if_pos hn] at h ⊢
      cases ha : partA P f.type xs f.offset with
      | none => simp [ha] at h
      | some a =>
        cases hb : partA P f.type ys f.offset with
        | none => simp [ha, hb] at h
        | some b0 =>
          obtain ⟨a', a1, a2⟩ := partA_sound (P := P) hx ha w
          obtain ⟨b', b1, b2⟩ := partA_sound (P := P) hy hb w
          simp only [ha, hb] at h
          cases hr : eq f.type a b0 with
          | none => simp [hr] at h
          | some r =>
            have e := heq _ _ _ _ _ _ hr a2 b2
            cases r with
            | false => simp [hr] at h; subst h; simp [a1, b1, e]
            | true => simp [hr] at h; simp [a1, b1, e, ih b h]
    · rw [if_neg hn] at h ⊢
      exact ih b h

theorem run_equalIn_array {P : Program} {φ : Ren} {d : Nat} {eq : TypeId → Value → Value → Option Bool} {w : World}
    (heq : ∀ t x y x' y' b, eq t x y = some b → VRel φ x x' → VRel φ y y' → (Op.equalIn d t x' y').run P w = .ok b w)
    {xs ys xs' ys' : Array Value} (hx : ARel φ xs xs') (hy : ARel φ ys ys') {t e : TypeId} {len n : Nat} {b : Bool} (ht : P.underlying t = some (.array len e)) (hs : szOf P e = some n)
    (h : eqElemsA P eq e n xs ys len 0 = some b) : (Op.equalIn (d + 1) t (.agg xs') (.agg ys')).run P w = .ok b w := by
  simp only [Op.equalIn, Sem.run_bind, run_underlying ht, Result.andThen_ok, run_sizeOf hs]
  rw [Std.Legacy.Range.forIn_eq_forIn_range']
  simp only [Std.Legacy.Range.size, Nat.sub_zero, Nat.add_one_sub_one, Nat.div_one]
  have key : ∀ (m i : Nat) (b : Bool), eqElemsA P eq e n xs ys m i = some b →
      ((forIn (List.range' i m) ((none, ()) : Option Bool × Unit) fun i _ => do
          let __do_lift ← part e xs' (i * n)
          let __do_lift_1 ← part e ys' (i * n)
          let __do_lift ← Op.equalIn d e __do_lift __do_lift_1
          if (!__do_lift) = true then pure (ForInStep.done (some false, ())) else pure (ForInStep.yield (none, ())) : Sem _).run P w).andThen
        (fun r w' => ((match r.fst with | some a => pure a | none => pure true : Sem Bool)).run P w') = .ok b w := by
    intro m
    induction m with
    | zero => intro i b h; simp [eqElemsA] at h; subst h; simp
    | succ m ih =>
      intro i b h
      simp only [eqElemsA] at h
      cases ha : partA P e xs (i * n) with
      | none => simp [ha] at h
      | some a =>
        cases hb : partA P e ys (i * n) with
        | none => simp [ha, hb] at h
        | some b0 =>
          obtain ⟨a', a1, a2⟩ := partA_sound (P := P) hx ha w
          obtain ⟨b', b1, b2⟩ := partA_sound (P := P) hy hb w
          simp only [ha, hb] at h
          cases hr : eq e a b0 with
          | none => simp [hr] at h
          | some r =>
            have e1 := heq _ _ _ _ _ _ hr a2 b2
            cases r with
            | false => simp [hr] at h; subst h; simp [List.range'_succ, a1, b1, e1]
            | true =>
              simp [hr] at h
              have := ih (i + 1) b h
              simp only [List.range'_succ, List.forIn_cons, Sem.run_bind, a1, b1, e1, Result.andThen_ok, Bool.not_true, Bool.false_eq_true, if_false, Sem.run_pure]
              exact this
  refine Eq.trans ?_ (key len 0 b h)
  congr 1
  funext r w'
  obtain ⟨o, u⟩ := r
  cases o <;> rfl

theorem eqIn_sound {P : Program} {φ : Ren} {w : World} : ∀ (d : Nat) (t : TypeId) (x y x' y' : Value) (b : Bool), eqIn P d t x y = some b → VRel φ x x' → VRel φ y y' → (Op.equalIn d t x' y').run P w = .ok b w := by
  intro d
  induction d with
  | zero => intro t x y x' y' b h; simp [eqIn] at h
  | succ d ih =>
    intro t x y x' y' b h hx hy
    simp only [eqIn] at h
    split at h
    · rename_i hu; cases h; cases hx; cases hy; exact run_equalIn_bool' w d t _ _ hu
    · rename_i hu
      cases hx; cases hy
      split at h
      · rename_i hk; subst hk; cases h; exact run_equalIn_int w d t _ _ _ _ hu
      · cases h
    · rename_i hu; cases h; cases hx; cases hy
      rw [run_equalIn_string w d t _ _ hu, ByteArray.toList_eq, ByteArray.toList_eq, strEq_eq]
    · rename_i fields xs ys hu
      split at h
      · cases h
      · rename_i hst
        cases hx with
        | agg x1 x2 =>
          cases hy with
          | agg y1 y2 =>
            have hf : P.fieldsOf t = fields := by simp [Program.fieldsOf, hu]
            rw [run_equalIn_struct w d t _ _ (by rw [hf]; exact hu) (by simpa using hst), hf]
            exact eqFieldsA_sound (fun t x y x' y' b a c e => ih t x y x' y' b a c e) ⟨x1, x2⟩ ⟨y1, y2⟩ _ b h
    · rename_i len e xs ys hu
      split at h
      · rename_i n hs
        cases hx with
        | agg x1 x2 =>
          cases hy with
          | agg y1 y2 => exact run_equalIn_array (fun t x y x' y' b a c e => ih t x y x' y' b a c e) ⟨x1, x2⟩ ⟨y1, y2⟩ hu hs h
      · cases h
    · cases h

end Go.Proofs.YtkjkoejnicbieaaGreat.AM

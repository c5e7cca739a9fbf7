/-
  THE ABSTRACT MACHINE, part 8: all quiet operations in one function, and what the model does at each.
-/
import Derived.Test.YtkjkoejnicbieaaGreatAm7
import Derived.Lib.UnsafeStr
import Derived.Laws.BytesString
import Derived.Lib.ConvBytes
import Derived.Laws.AppendOwn
namespace Go.Proofs.YtkjkoejnicbieaaGreat.AM
open Go Go.RowKit

/-! ### One operand more -/
def unA (op : UnOp) (x : Value) : Option Value :=
  match op, x with
  | .neg, .int k n => some (.int k (k.wrap (0 - n)))
  | .xor, .int k n => some (.int k (k.wrap (BitVec.ofInt k.bits (if k.signed then -1 else k.max) ^^^ BitVec.ofInt k.bits n).toNat))
  | .not, .bool b => some (.bool !b)
  | _, _ => none

theorem unA_sound {P : Program} {φ : Ren} {op : UnOp} {x x' v : Value} (hx : VRel φ x x') (h : unA op x = some v) (w : World) : (Op.unary op x').run P w = .ok v w ∧ cst 0 v = true := by
  unfold unA at h
  split at h
  · cases h; cases hx; exact ⟨by simp [Op.unary, Op.intArith], rfl⟩
  · cases h; cases hx; exact ⟨by simp [Op.unary, Op.intBits], rfl⟩
  · cases h; cases hx; exact ⟨by simp [Op.unary], rfl⟩
  · cases h

/-! ### Rows of bytes -/
def byteOf (v : Value) : Option UInt8 :=
  match v with
  | .int .u8 (.ofNat n) => bif Nat.blt n 256 then some (UInt8.ofNat n) else none
  | _ => none

def bytesOf : List Value → Option (List UInt8)
  | [] => some []
  | v :: vs => match byteOf v with
    | some b => match bytesOf vs with
      | some bs => some (b :: bs)
      | none => none
    | none => none

theorem byteOf_eq {v : Value} {b : UInt8} (h : byteOf v = some b) : v = .int .u8 (b.toNat : Int) := by
  unfold byteOf at h
  split at h
  · rename_i n
    cases hb : Nat.blt n 256 with
    | false => simp [hb] at h
    | true =>
      simp only [hb, cond_true, Option.some.injEq] at h
      subst h
      have : n < 256 := by simpa [Nat.blt_eq] using hb
      have e : (UInt8.ofNat n).toNat = n := by simp; omega
      rw [e]; rfl
  · cases h

theorem bytesOf_get : ∀ (vs : List Value) (bs : List UInt8), bytesOf vs = some bs → bs.length = vs.length ∧ ∀ (j : Nat) (b : UInt8), bs[j]? = some b → vs[j]? = some (Value.int .u8 (b.toNat : Int)) := by
  intro vs
  induction vs with
  | nil => intro bs h; simp [bytesOf] at h; subst h; simp
  | cons v vs ih =>
    intro bs h
    simp only [bytesOf] at h
    cases hv : byteOf v with
    | none => simp [hv] at h
    | some b =>
      cases hr : bytesOf vs with
      | none => simp [hv, hr] at h
      | some l =>
        simp [hv, hr] at h
        subst h
        obtain ⟨h1, h2⟩ := ih l hr
        refine ⟨by simp [h1], fun j b' hj => ?_⟩
        cases j with
        | zero => simp at hj; subst hj; simp [byteOf_eq hv]
        | succ j => simpa using h2 j b' (by simpa using hj)

theorem bytesOf_map : ∀ (vs : List Value) (bs : List UInt8), bytesOf vs = some bs → vs = bs.map fun b => Value.int .u8 (b.toNat : Int) := by
  intro vs
  induction vs with
  | nil => intro bs h; simp [bytesOf] at h; subst h; rfl
  | cons v vs ih =>
    intro bs h
    simp only [bytesOf] at h
    cases hv : byteOf v with
    | none => simp [hv] at h
    | some b =>
      cases hr : bytesOf vs with
      | none => simp [hv, hr] at h
      | some l =>
        simp [hv, hr] at h
        subst h
        rw [List.map_cons, ← ih l hr, byteOf_eq hv]

/-- The text of a row of bytes. -/
def sliceStr (hp : Tr AObj) (ba : Option Addr) (n : Nat) : Option Value :=
  match n with
  | 0 => some (.string ⟨#[]⟩)
  | m + 1 => match ba with
    | some ⟨b, o, none⟩ => match ldCells hp b o (m + 1) with
      | some vs => match bytesOf vs with
        | some bs => some (.string ⟨bs.toArray⟩)
        | none => none
      | none => none
    | _ => none

theorem foldl_push_eq : ∀ (bs : List UInt8) (s : ByteArray), (bs.map fun b => (b.toNat : Int)).foldl (fun r (n : Int) => r.push (UInt8.ofNat n.toNat)) s = ⟨s.data ++ bs.toArray⟩ := by
  intro bs
  induction bs with
  | nil => intro s; simp
  | cons b bs ih =>
    intro s
    rw [List.map_cons, List.foldl_cons, ih]
    apply ByteArray.ext
    simp [ByteArray.push]

theorem sliceStr_sound {P : Program} {φ : Ren} {hp : Tr AObj} {w : World} (hw : WRel φ hp w) {ba : Option Addr} {n c : Nat} {x' v : Value} (hx : VRel φ (.slice ba n c) x') (h : sliceStr hp ba n = some v) :
    (Conv.bytesToString x').run P w = .ok v w ∧ cst 0 v = true := by
  have nil_ : ∀ a : Addr, ∀ c, (Conv.bytesToString (.slice (some a) 0 c)).run P w = .ok (.string ⟨#[]⟩) w := fun a c => by
    have := run_bytesToString (P := P) w a 0 c [] (by simp [loadCells, loadCellsFrom])
    exact this
  have core : ∀ (m b o : Nat) (l : Loc) (c' : Nat) (v : Value), φ b = some l → sliceStr hp (some ⟨b, o, none⟩) (m + 1) = some v → (Conv.bytesToString (.slice (some ⟨l.blk, l.off + o, none⟩) (m + 1) c')).run P w = .ok v w ∧ cst 0 v = true := by
    intro m b o l c' v hl h
    simp only [sliceStr] at h
    split at h
    · rename_i vs hv
      split at h
      · rename_i bs hb
        cases h
        refine ⟨?_, rfl⟩
        obtain ⟨vs', g1, g2, g3⟩ := ldCells_sound hw hv hl
        have e1 := bytesOf_map _ _ hb
        have e2 : vs' = vs := by
          apply List.ext_getElem?
          intro i
          have hlen : vs.length = vs'.length := by simpa using g3.1
          cases hi : vs[i]? with
          | none => rw [List.getElem?_eq_none_iff] at hi ⊢; omega
          | some u =>
            obtain ⟨u', h1, h2⟩ := g3.get? (i := i) (v := u) (by simpa using hi)
            rw [show vs'[i]? = some u' from by simpa using h1]
            rw [e1, List.getElem?_map] at hi
            cases hq : bs[i]? with
            | none => rw [hq] at hi; cases hi
            | some b0 => rw [hq] at hi; cases hi; cases h2; rfl
        have hrun : (loadCells ⟨l.blk, l.off + o, none⟩ (m + 1)).run P w = .ok ((bs.map fun b => (b.toNat : Int)).map (Value.int .u8)).toArray w := by
          have e3 : (bs.map fun b => (b.toNat : Int)).map (Value.int .u8) = vs' := by rw [e2, e1]; simp
          rw [e3]
          rw [← g1]
          exact run_loadCells_list w _ vs' g2
        rw [run_bytesToString w _ _ c' _ hrun, foldl_push_eq]
        simp
      · cases h
    · cases h
  cases n with
  | zero =>
    simp only [sliceStr, Option.some.injEq] at h
    subst h
    refine ⟨?_, rfl⟩
    cases hx with
    | snil => simp [Conv.bytesToString]; rfl
    | slice _ _ => exact nil_ _ _
    | sopen => exact nil_ _ _
    | szero => exact nil_ _ _
  | succ m =>
    cases hx with
    | snil => simp [sliceStr] at h
    | @slice b o _ _ l hl hc => exact core m b o l c v hl h
    | @sopen b o _ x c2 l hl hlen hx hfin hexact =>
      rw [(hexact (by omega)).1]
      exact core m b o l c2 v hl h

/-- Is a cell known at an address, at its block's head? -/
def headAt (hp : Tr AObj) (b o : Nat) : Option (TypeId × Nat) :=
  match hp.get b with
  | some (.cells c e _ _ _ true) => bif Nat.beq o 0 then some (e, c.length) else none
  | _ => none

def convA (P : Program) (hp : Tr AObj) (src dst : TypeId) (x : Value) : Option Value :=
  match P.underlying src, P.underlying dst with
  | some _, some (.int k) => match x with
    | .int _ n => some (.int k (k.wrap n))
    | _ => none
  | some d, some .string => match x with
    | .string s => some (.string s)
    | .int _ n => some (.string (Utf8.encode n))
    | .slice ba n _ => match d with
      | .slice e => match P.underlying e with
        | some (.int .u8) => sliceStr hp ba n
        | _ => none
      | _ => none
    | _ => none
  | some (.pointer t), some .unsafePointer => match x with
    | .pointer none => some x
    | .pointer (some ⟨b, o, none⟩) => match ldCell hp b o, szOf P t with
      | some _, some (_ + 1) => some x
      | _, _ => none
    | _ => none
  | some .unsafePointer, some (.pointer u) => match x with
    | .pointer none => some x
    | .pointer (some ⟨b, o, none⟩) => match headAt hp b o, szOf P u with
      | some (e, n), some (m + 1) => bif Nat.beq e u && Nat.ble (m + 1) n then some x else none
      | _, _ => none
    | _ => none
  | _, _ => none

theorem headAt_sound {φ : Ren} {hp : Tr AObj} {w : World} (hw : WRel φ hp w) {b o : Nat} {e : TypeId} {n : Nat} (h : headAt hp b o = some (e, n)) {l : Loc} (hl : φ b = some l) :
    ∃ c' fr, w.heap[l.blk]? = some (.cells c' e fr) ∧ n ≤ c'.size ∧ l.off + o = 0 := by
  unfold headAt at h
  split at h
  · rename_i c e' sz fz ro hg
    cases hb : Nat.beq o 0 with
    | false => simp [hb] at h
    | true =>
      simp [hb] at h
      obtain ⟨rfl, rfl⟩ := h
      obtain ⟨c', fr, h1, h0, hz, h2, h3, _⟩ := hw.obj _ _ _ hg hl
      have := Nat.eq_of_beq_eq_true hb
      have := hz rfl
      exact ⟨c', fr, h1, by omega, by omega⟩
  · cases h

theorem run_viewAt_cells {P : Program} {w : World} {r : Nat} {c : Array Value} {e : TypeId} {fr : Nat × Nat} (h : w.heap[r]? = some (.cells c e fr)) : (viewAt r).run P w = .ok none w := by
  simp [viewAt, World.shape?, h]

theorem run_seenAt_cells {P : Program} {w : World} {a : Addr} {c : Array Value} {e : TypeId} {fr : Nat × Nat} (h : w.heap[a.block]? = some (.cells c e fr)) : (Conv.seenAt a).run P w = .ok a w := by
  simp [Conv.seenAt, run_viewAt_cells h]

theorem liesAt_head {P : Program} {e : TypeId} (hc : 0 < P.cellsOf e) (count : Nat) (hn : 1 ≤ count) : liesAt P P.depth e count 0 e 1 = true := by
  have hd : P.depth = (2 * (P.types.size + Made.depth) + 1) + 1 := rfl
  rw [hd]
  simp only [liesAt, Bool.or_eq_true]
  left
  rw [hd]
  have : P.cellsOf e ≠ 0 := by omega
  simp [rowAt, this, hn, sameLayout]

theorem convA_sound {P : Program} {φ : Ren} {hp : Tr AObj} {w : World} (hw : WRel φ hp w) {src dst : TypeId} {x x' v : Value} (hx : VRel φ x x') (h : convA P hp src dst x = some v) :
    ∃ v', (convert src dst x').run P w = .ok v' w ∧ VRel φ v v' := by
  unfold convA at h
  split at h
  · rename_i d k hs hd
    split at h
    · cases h; cases hx
      exact ⟨_, by simp [convert, run_underlying hs, run_underlying hd, Conv.intToInt], .int _ _⟩
    · cases h
  · rename_i d hs hd
    split at h
    · cases h; cases hx
      exact ⟨_, by simp [convert, run_underlying hs, run_underlying hd], .string _⟩
    · cases h; cases hx
      exact ⟨_, by simp [convert, run_underlying hs, run_underlying hd, Conv.intToString], .string _⟩
    · rename_i ba n cc
      split at h
      · rename_i e
        split at h
        · rename_i he
          obtain ⟨g1, g2⟩ := sliceStr_sound (P := P) hw hx h
          refine ⟨v, ?_, cst_rel φ 0 v g2⟩
          obtain ⟨a', n', c', rfl⟩ : ∃ a' n' c', x' = .slice a' n' c' := by cases hx <;> exact ⟨_, _, _, rfl⟩
          rw [run_convert_bytes_string w src dst e a' n' c' hs he hd]
          exact g1
        · cases h
      · cases h
    · cases h
  · rename_i t hs hd
    split at h
    · cases h; cases hx
      exact ⟨_, by simp [convert, run_underlying hs, run_underlying hd, Conv.unsafePointer], .pnil⟩
    · rename_i b o
      split at h
      · rename_i e m hh hsz
        cases h
        cases hx with
        | @ptr _ _ l hl =>
          obtain ⟨e2, c', fr, h1, h2⟩ : ∃ e2 c' fr, w.heap[l.blk]? = some (.cells c' e2 fr) ∧ l.off + o < c'.size := by
            unfold ldCell at hh
            split at hh
            · rename_i c e' sz fz ro hd' hg
              obtain ⟨c', fr, k1, _, _, k2, k3, _⟩ := hw.obj _ _ _ hg hl
              have := (List.getElem?_eq_some_iff.1 hh).1
              exact ⟨e', c', fr, k1, by omega⟩
            · cases hh
          refine ⟨_, ?_, .ptr hl⟩
          have hci : (cellsIn l.blk).run P w = .ok (some c'.size) w := by simp [cellsIn, World.shape?, h1]
          have hlt : ¬ (c'.size ≤ l.off + o) := by omega
          have hsn := run_seenAt_cells (P := P) (w := w) (a := ⟨l.blk, l.off + o, none⟩) h1
          simp [convert, run_underlying hs, run_underlying hd, Conv.unsafePointer, hsn, hci, run_sizeOf hsz, hlt]
      · cases h
    · cases h
  · rename_i u hs hd
    split at h
    · cases h; cases hx
      exact ⟨_, by simp [convert, run_underlying hs, run_underlying hd, Conv.unsafePointer], .pnil⟩
    · rename_i b o
      split at h
      · rename_i e n m hh hsz
        cases hc : (Nat.beq e u && Nat.ble (m + 1) n) with
        | false => simp [hc] at h
        | true =>
          simp only [hc, cond_true, Option.some.injEq] at h
          subst h
          simp at hc
          obtain ⟨rfl, hmn⟩ := hc
          cases hx with
          | @ptr _ _ l hl =>
            obtain ⟨c', fr, h1, h2, h3⟩ := headAt_sound hw hh hl
            refine ⟨_, ?_, .ptr hl⟩
            have hce : P.cellsOf e = m + 1 := by
              unfold szOf at hsz
              simp [Program.cellsOf, hsz]
            have hlies := liesAt_head (P := P) (e := e) (by omega) (c'.size / P.cellsOf e) (by rw [hce]; exact (Nat.le_div_iff_mul_le (by omega)).2 (by omega))
            have hva : (variablesAt ⟨l.blk, l.off + o, none⟩ e 1).run P w = .ok true w := by
              simp [variablesAt, World.shape?, h1, h3, hlies]
            have hsn := run_seenAt_cells (P := P) (w := w) (a := ⟨l.blk, l.off + o, none⟩) h1
            simp [convert, run_underlying hs, run_underlying hd, Conv.unsafePointer, hsn, run_sizeOf hsz, hva]
      · cases h
    · cases h
  · cases h

/-! ### Lengths -/
def lenA (P : Program) (hp : Tr AObj) (t : TypeId) (x : Value) : Option Value :=
  match P.underlying t with
  | some .string => match x with
    | .string s => some (.int .i64 s.size)
    | _ => none
  | some (.array n _) => some (.int .i64 n)
  | some (.slice _) => match x with
    | .slice _ n _ => some (.int .i64 n)
    | _ => none
  | some (.map _ _) => match mapAt hp x with
    | some es => some (.int .i64 es.length)
    | none => none
  | some (.pointer a) => match P.underlying a with
    | some (.array n _) => some (.int .i64 n)
    | _ => none
  | _ => none

theorem MRel.length {φ : Ren} {es : List (Value × Value)} {clock : Nat} {es' : List MapEntry} (h : MRel φ es clock es') : es'.length = es.length := by
  obtain ⟨p, hp, ha, _⟩ := h
  rw [← hp.length_eq, ha.length]

theorem lenA_sound {P : Program} {φ : Ren} {hp : Tr AObj} {w : World} (hw : WRel φ hp w) {t ty : TypeId} {x x' v : Value} (hx : VRel φ x x') (h : lenA P hp t x = some v) :
    (Builtin.len_ #[t] ty #[x']).run P w = .ok v w ∧ cst 0 v = true := by
  unfold lenA at h
  split at h
  · rename_i hu
    split at h
    · cases h; cases hx; exact ⟨by simp [Builtin.len_, run_underlying hu, goInt], rfl⟩
    · cases h
  · rename_i n e hu
    cases h
    exact ⟨by simp [Builtin.len_, run_underlying hu, goInt], rfl⟩
  · rename_i e hu
    split at h
    · cases h
      cases hx <;> exact ⟨by simp [Builtin.len_, run_underlying hu, goInt], rfl⟩
    · cases h
  · rename_i k e hu
    split at h
    · rename_i es hm
      cases h
      cases hx with
      | mnil => simp [mapAt] at hm; subst hm; exact ⟨by simp [Builtin.len_, run_underlying hu, goInt], rfl⟩
      | @map r l hl =>
        simp only [mapAt] at hm
        split at hm
        · rename_i es0 ck hg
          cases hm
          obtain ⟨ea, h1, h2⟩ := hw.obj _ _ _ hg hl
          have := h2.length
          refine ⟨?_, rfl⟩
          simp only [Array.length_toList] at this
          simp [Builtin.len_, run_underlying hu, goInt, getObj, Sem.run, h1, this]
        · cases hm
      | _ => simp [mapAt] at hm
    · cases h
  · rename_i a hu
    split at h
    · rename_i n e hu2
      cases h
      exact ⟨by simp [Builtin.len_, run_underlying hu, run_underlying hu2, goInt], rfl⟩
    · cases h
  · cases h

def minA (x y : Value) : Option Value :=
  match x, y with
  | .int k a, .int _ b => some (.int k (if b < a then b else a))
  | _, _ => none

def maxA (x y : Value) : Option Value :=
  match x, y with
  | .int k a, .int _ b => some (.int k (if b > a then b else a))
  | _, _ => none

/-! ### New objects -/
theorem ORel.new {φ : Ren} {w : World} {c : List Value} {c' : Array Value} (h : ARel φ c.toArray c') (t sz : Nat) (φ' : Ren) (hle : Ren.le φ φ') :
    ORel φ' (.cells c t sz 0 false true) ⟨w.heap.size, 0, c'.size, sz⟩ (w.alloc (.cells c' t)) := by
  have hs : c.length = c'.size := by simpa using h.1
  refine ⟨c', (0, 0), heap_alloc_at _ _, rfl, fun _ => rfl, Nat.le_refl _, by simp [hs], fun i v hv => ?_, fun hh => by simp at hh⟩
  obtain ⟨v', g1, g2⟩ := h.get? (i := i) (v := v) (by simpa using hv)
  exact ⟨v', by simpa using g1, g2.mono hle⟩

def rep (z : List Value) : Nat → List Value
  | 0 => []
  | n + 1 => z ++ rep z n

theorem rep_length (z : List Value) (n : Nat) : (rep z n).length = n * z.length := by
  induction n with
  | zero => simp [rep]
  | succ n ih => simp [rep, ih, Nat.add_mul, Nat.add_comm]

theorem rep_get (z : List Value) : ∀ (n i : Nat), i < n * z.length → (rep z n)[i]? = z[i % z.length]? := by
  intro n
  induction n with
  | zero => intro i h; simp at h
  | succ n ih =>
    intro i h
    simp only [rep]
    by_cases hi : i < z.length
    · rw [List.getElem?_append_left hi, Nat.mod_eq_of_lt hi]
    · rw [List.getElem?_append_right (by omega), ih _ (by rw [Nat.add_mul] at h; omega)]
      congr 1
      conv => rhs; rw [show i = (i - z.length) + z.length from by omega]
      rw [Nat.add_mod_right]

/-- The model's rows of zero values. -/
theorem zeros_eq (z : Array Value) (n : Nat) (hz : 0 < z.size) : ((Array.range (n * z.size)).map (z[· % z.size]!)) = (rep z.toList n).toArray := by
  apply Array.ext
  · simp [rep_length]
  · intro i h1 h2
    have hi : i < n * z.size := by simpa using h1
    have hm : i % z.size < z.size := Nat.mod_lt _ hz
    have := rep_get z.toList n i (by simpa using hi)
    simp only [Array.length_toList] at this
    rw [List.getElem?_eq_getElem (by simpa [rep_length] using hi)] at this
    rw [Array.getElem?_toList, Array.getElem?_eq_getElem hm] at this
    have := Option.some.inj this
    simp [hm, this]

inductive QR where
  | same (v : Value)
  | new (v : Value) (o : AObj)

def ptrTo (n : Nat) : Value := .pointer (some ⟨n, 0, none⟩)

def buildSliceA (P : Program) (nx : Nat) (t : TypeId) (len : Nat) (parts : List (Nat × Value)) : Option (Value × AObj) :=
  match P.underlying t with
  | some (.slice e) => match szOf P e, zeroOf P e with
    | some size, some z => bif cst 8 z && Nat.beq z.cells.size size && Nat.blt 0 size && Nat.ble (len * size) 16777216 then
        match fillA (fun i => some (i * size, size)) (rep z.cells.toList len) parts with
        | some cs => some (.slice (some ⟨nx, 0, none⟩) len len, .cells cs e size 0 false true)
        | none => none
      else none
    | _, _ => none
  | _ => none

theorem buildSliceA_sound {P : Program} {φ : Ren} {w : World} {nx : Nat} (hn : φ nx = none) {t : TypeId} {len : Nat} {parts parts' : List (Nat × Value)} (hp : All2 (fun (a b : Nat × Value) => a.1 = b.1 ∧ VRel φ a.2 b.2) parts parts')
    {v : Value} {o : AObj} (h : buildSliceA P nx t len parts = some (v, o)) :
    ∃ v' ob l, (Instr.buildSlice t len parts'.toArray).run P w = .ok v' (w.alloc ob) ∧ l.blk = w.heap.size ∧ VRel (φ.put nx l) v v' ∧ ORel (φ.put nx l) o l (w.alloc ob) ∧ o.ro = false := by
  unfold buildSliceA at h
  split at h
  · rename_i e hu
    split at h
    · rename_i size z hs hz
      cases hc : (cst 8 z && Nat.beq z.cells.size size && Nat.blt 0 size && Nat.ble (len * size) 16777216) with
      | false => simp [hc] at h
      | true =>
        simp only [hc, cond_true] at h
        simp [Nat.blt_eq] at hc
        obtain ⟨⟨⟨hcz, hsz⟩, h0⟩, hlim⟩ := hc
        split at h
        · rename_i cs hf
          cases h
          have hzr := (cst_rel φ 8 z hcz).cells.lrel
          have hrr : LRel φ (rep z.cells.toList len) (rep z.cells.toList len) := by
            clear hf hlim
            induction len with
            | zero => exact .nil
            | succ n ih => exact All2.append hzr ih
          obtain ⟨r', g1, g2⟩ := fillA_sound _ _ hp _ _ _ hrr hf
          have hle : Ren.le φ (φ.put nx ⟨w.heap.size, 0, r'.size, size⟩) := Ren.le_put hn
          have hlen : len < OPEN := by
            have h2 : len * 1 ≤ len * size := Nat.mul_le_mul_left len h0
            have : OPEN = 9223372036854775808 := rfl
            omega
          refine ⟨.slice (some ⟨w.heap.size, 0, none⟩) len len, .cells r' e, ⟨w.heap.size, 0, r'.size, size⟩, ?_, rfl, ?_, ORel.new g2 e size _ hle, rfl⟩
          · have hzz : ((Array.range (len * size)).map ((if len * size = 0 then #[] else z.cells)[· % (if len * size = 0 then #[] else z.cells).size]!)) = (rep z.cells.toList len).toArray := by
              by_cases hl0 : len * size = 0
              · have : len = 0 := by
                  rcases Nat.mul_eq_zero.1 hl0 with h | h
                  · exact h
                  · omega
                subst this
                simp [rep]
              · simp only [if_neg hl0]
                rw [← hsz]
                exact zeros_eq z.cells len (by omega)
            have hlim' : ¬ (len * size > 2 ^ 24) := by simp; omega
            simp only [Instr.buildSlice, Sem.run_bind, run_underlying hu, Result.andThen_ok, run_sizeOf hs]
            rw [if_neg hlim']
            by_cases hl0 : len * size = 0
            · simp only [if_pos hl0] at hzz ⊢
              simp only [Sem.run_bind, Sem.run_pure, Result.andThen_ok, hzz, g1, newRow, run_newObj, World.alloc_eq]
            · simp only [if_neg hl0] at hzz ⊢
              simp only [Sem.run_bind, Sem.run_pure, Result.andThen_ok, run_zeroValue hz, hzz, g1, newRow, run_newObj, World.alloc_eq]
          · have := VRel.slice (φ := φ.put nx ⟨w.heap.size, 0, r'.size, size⟩) (o := 0) (len := len) (cap := len) (Ren.put_same _ _ _) (by omega)
            simpa using this
        · cases h
    · cases h
  · cases h

def makeSliceA (P : Program) (nx : Nat) (t : TypeId) (l c : Value) : Option (Value × AObj) :=
  match P.underlying t with
  | some (.slice e) => match natV l, natV c, P.info? e with
    | some len, some cap, some i => match i.zero with
      | some z => bif cst 8 z && Nat.beq z.cells.size i.size && Nat.blt 0 i.size && Nat.blt 0 i.bytes && Nat.ble len cap && Nat.ble (i.bytes * cap) 281474976710656 then
          some (.slice (some ⟨nx, 0, none⟩) len cap, .cells (rep z.cells.toList cap) e i.size 0 false true)
        else none
      | none => none
    | _, _, _ => none
  | _ => none

/-- The bytes of a string, as a row of their own that nobody writes. -/
def strBytesA (P : Program) (nx : Nat) (src dst : TypeId) (x : Value) : Option (Value × AObj) :=
  match P.underlying dst with
  | some (.slice e) => match P.underlying e with
    | some (.int .u8) => match szOf P e, P.underlying src with
      | some 1, some .string => match x with
        | .string s => bif Nat.blt s.size 140737488355328 then some (.slice (some ⟨nx, 0, none⟩) s.size OPEN, .cells (s.data.toList.map fun b => .int .u8 b.toNat) e 1 18446744073709551616 true true) else none
        | _ => none
      | _, _ => none
    | _ => none
  | _ => none

theorem wrap_small {n : Nat} (h : n < 9223372036854775808) : IntKind.i64.wrap (n : Int) = n := by
  rw [IntKind.wrap_i64]; omega

theorem makeSliceA_sound {P : Program} {φ : Ren} {w : World} {nx : Nat} (hn : φ nx = none) {t : TypeId} {l c l' c' : Value} (hl : VRel φ l l') (hc : VRel φ c c') {v : Value} {o : AObj} (h : makeSliceA P nx t l c = some (v, o)) :
    ∃ v' ob lc, (Instr.makeSlice t l' c').run P w = .ok v' (w.alloc ob) ∧ lc.blk = w.heap.size ∧ VRel (φ.put nx lc) v v' ∧ ORel (φ.put nx lc) o lc (w.alloc ob) ∧ o.ro = false := by
  unfold makeSliceA at h
  split at h
  · rename_i e hu
    split at h
    · rename_i len cap i hlen hcap hi
      obtain rfl := natV_rel hl hlen
      obtain rfl := natV_rel hc hcap
      obtain ⟨k1, rfl⟩ := natV_eq hlen
      obtain ⟨k2, rfl⟩ := natV_eq hcap
      split at h
      · rename_i z hz
        cases hcc : (cst 8 z && Nat.beq z.cells.size i.size && Nat.blt 0 i.size && Nat.blt 0 i.bytes && Nat.ble len cap && Nat.ble (i.bytes * cap) 281474976710656) with
        | false => simp [hcc] at h
        | true =>
          simp only [hcc, cond_true] at h
          simp [Nat.blt_eq] at hcc
          obtain ⟨⟨⟨⟨⟨hcz, hsz⟩, h0⟩, hb⟩, hlc⟩, hlim⟩ := hcc
          cases h
          have hcb : cap ≤ i.bytes * cap := Nat.le_mul_of_pos_left cap hb
          have hzr := (cst_rel φ 8 z hcz).cells.lrel
          have hrr : LRel φ (rep z.cells.toList cap) (rep z.cells.toList cap) := by
            clear hlim hlc hcb hcap hc
            induction cap with
            | zero => exact .nil
            | succ n ih => exact All2.append hzr ih
          have hw1 := wrap_small (n := len) (by omega)
          have hw2 := wrap_small (n := cap) (by omega)
          have hle : Ren.le φ (φ.put nx ⟨w.heap.size, 0, (rep z.cells.toList cap).toArray.size, i.size⟩) := Ren.le_put hn
          refine ⟨.slice (some ⟨w.heap.size, 0, none⟩) len cap, .cells (rep z.cells.toList cap).toArray e, ⟨w.heap.size, 0, (rep z.cells.toList cap).toArray.size, i.size⟩, ?_, rfl, ?_, ORel.new hrr.arel e i.size _ hle, rfl⟩
          · have hzv : zeroOf P e = some z := by simp [zeroOf, hi, hz]
            have hzz : ((Array.range (cap * i.size)).map ((if cap * i.size = 0 then #[] else z.cells)[· % (if cap * i.size = 0 then #[] else z.cells).size]!)) = (rep z.cells.toList cap).toArray := by
              by_cases hl0 : cap * i.size = 0
              · have : cap = 0 := by
                  rcases Nat.mul_eq_zero.1 hl0 with h | h
                  · exact h
                  · omega
                subst this
                simp [rep]
              · simp only [if_neg hl0]
                rw [← hsz]
                exact zeros_eq z.cells cap (by omega)
            have hti : (typeInfo e).run P w = .ok i w := by simp [typeInfo, hi]
            have hso : (sizeOf e).run P w = .ok i.size w := by simp [sizeOf, hti]
            have e1 : ¬ ((decide ((cap : Int) < 0) || decide ((i.bytes : Int) * (cap : Int) > 2 ^ 48)) || decide ((len : Int) < 0) || decide ((len : Int) > (cap : Int))) = true := by
              rw [← Int.natCast_mul]
              generalize i.bytes * cap = m at hlim
              simp; omega
            simp only [Instr.makeSlice, Sem.run_bind, run_underlying hu, Result.andThen_ok, asInt, asIntOf, Sem.run_pure, hti, hw1, hw2]
            rw [if_neg e1]
            simp only [Int.toNat_natCast, run_askRoom, Sem.run_bind, Result.andThen_ok, hso]
            by_cases hl0 : cap * i.size = 0
            · simp only [if_pos hl0] at hzz ⊢
              simp only [Sem.run_bind, Sem.run_pure, Result.andThen_ok, hzz, newRow, run_newObj, World.alloc_eq]
            · simp only [if_neg hl0] at hzz ⊢
              simp only [Sem.run_bind, Sem.run_pure, Result.andThen_ok, run_zeroValue hzv, hzz, newRow, run_newObj, World.alloc_eq]
          · have : OPEN = 9223372036854775808 := rfl
            have := VRel.slice (φ := φ.put nx ⟨w.heap.size, 0, (rep z.cells.toList cap).toArray.size, i.size⟩) (o := 0) (len := len) (cap := cap) (Ren.put_same _ _ _) (by omega)
            simpa using this
      · cases h
    · cases h
  · cases h

theorem strBytesA_sound {P : Program} {φ : Ren} {w : World} {nx : Nat} (hn : φ nx = none) {src dst : TypeId} {x x' : Value} (hx : VRel φ x x') {v : Value} {o : AObj} (h : strBytesA P nx src dst x = some (v, o)) :
    ∃ v' ob l, (convert src dst x').run P w = .ok v' (w.drew.alloc ob) ∧ l.blk = w.heap.size ∧ VRel (φ.put nx l) v v' ∧ ORel (φ.put nx l) o l (w.drew.alloc ob) := by
  unfold strBytesA at h
  split at h
  · rename_i e hd
    split at h
    · rename_i he
      split at h
      · rename_i hsz hs
        split at h
        · rename_i s
          cases hlt : Nat.blt s.size 140737488355328 with
          | false => simp [hlt] at h
          | true =>
            have hb : s.size < 140737488355328 := by simpa [Nat.blt_eq] using hlt
            simp only [hlt, cond_true, Option.some.injEq, Prod.mk.injEq] at h
            obtain ⟨rfl, rfl⟩ := h
            cases hx
            have hcap := grownCap_ge w s.size 0 e
            have hcap2 : grownCap w s.size 0 e ≤ maxLen := grownCap_le_maxLen w s.size 0 e (by unfold maxLen; omega)
            have hcs : (Lib.bytesCells w e s).size = grownCap w s.size 0 e := by simp [Lib.bytesCells]; omega
            refine ⟨.slice (some ⟨w.heap.size, 0, none⟩) s.size (grownCap w s.size 0 e), .cells (Lib.bytesCells w e s) e (grownCap w s.size 0 e, grownCap w s.size 0 e + 1), ⟨w.heap.size, 0, grownCap w s.size 0 e, 1⟩, ?_, rfl, ?_, ?_⟩
            · rw [Lib.run_convert_string_bytes w src dst e s hs hd he]
              congr 1
              unfold Lib.bytesWorld
              rw [hcs]
              unfold World.freeze
              rw [if_neg (by decide)]
              have hm : ∀ (h : Array Obj) (o : Obj) (f : Obj → Obj), (h.push o).modify h.size f = h.push (f o) := by
                intro h o f
                apply Array.ext
                · simp
                · intro i h1 h2
                  rw [Array.getElem_modify, Array.getElem_push, Array.getElem_push]
                  by_cases hi : i < h.size
                  · have : h.size ≠ i := by omega
                    simp [hi, this]
                  · have : h.size = i := by simp at h1; omega
                    simp [this]
              show ({ w.drew.alloc (.cells (Lib.bytesCells w e s) e) with heap := (w.heap.push (.cells (Lib.bytesCells w e s) e)).modify w.heap.size _ } : World) = _
              rw [hm]
              rfl
            · exact VRel.sopen (l := ⟨w.heap.size, 0, grownCap w s.size 0 e, 1⟩) (Ren.put_same _ _ _) hcap (by simp) (by simp) (fun _ => by simp)
            · refine ⟨Lib.bytesCells w e s, (grownCap w s.size 0 e, grownCap w s.size 0 e + 1), ?_, rfl, fun _ => rfl, by simp [hcs], ?_, fun i v hv => ?_, fun _ => ?_⟩
              · exact heap_alloc_at w.drew _
              · simp; exact hcap
              · rw [List.getElem?_map] at hv
                cases hg : s.data.toList[i]? with
                | none => rw [hg] at hv; cases hv
                | some b =>
                  rw [hg] at hv
                  cases hv
                  have hi : i < s.data.size := by
                    have := (List.getElem?_eq_some_iff.1 hg).1
                    simpa using this
                  refine ⟨_, ?_, .int _ _⟩
                  simp only [Nat.zero_add, Lib.bytesCells]
                  rw [Array.getElem?_append_left (by simpa using hi), Array.getElem?_map]
                  rw [Array.getElem?_toList] at hg
                  rw [hg]; rfl
              · show grownCap w s.size 0 e + 1 ≤ 0 + 18446744073709551616
                unfold maxLen at hcap2
                omega
        · cases h
      · cases h
    · cases h
  · cases h

end Go.Proofs.YtkjkoejnicbieaaGreat.AM

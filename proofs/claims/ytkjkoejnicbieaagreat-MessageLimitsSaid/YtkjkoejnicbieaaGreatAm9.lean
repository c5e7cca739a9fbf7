/-
  THE ABSTRACT MACHINE, part 9: a quiet operation, whichever.
-/
import Derived.Test.YtkjkoejnicbieaaGreatAm8
namespace Go.Proofs.YtkjkoejnicbieaaGreat.AM
open Go Go.RowKit

def evO (ev : Operand → Option Value) : Option Operand → Option (Option Value)
  | none => some none
  | some x => match ev x with
    | some v => some (some v)
    | none => none

def qop (P : Program) (ev : Operand → Option Value) (hp : Tr AObj) (nx : Nat) (op : Op) : Option QR :=
  match op with
  | .move x | .assign x => match ev x with
    | some v => some (.same v)
    | none => none
  | .pick c a b => match ev c, ev a, ev b with
    | some (.bool t), some u, some v => some (.same (bif t then u else v))
    | _, _, _ => none
  | .alloc t => match zeroOf P t, szOf P t with
    | some z, some n => bif cst 8 z then some (.new (ptrTo nx) (.cells z.cells.toList t n 0 false true)) else none
    | _, _ => none
  | .box t x => match ev x, szOf P t with
    | some v, some n => some (.new (ptrTo nx) (.cells v.cells.toList t n 0 false true))
    | _, _ => none
  | .build t ps => match evP ev ps.toList with
    | some parts => match buildA P t parts with
      | some v => some (.same v)
      | none => none
    | none => none
  | .buildSlice t len ps => match evP ev ps.toList with
    | some parts => match buildSliceA P nx t len parts with
      | some (v, ob) => some (.new v ob)
      | none => none
    | none => none
  | .load t a => match ev a with
    | some (.pointer (some ⟨b, o, none⟩)) => match ldVar P hp t b o with
      | some v => some (.same v)
      | none => none
    | _ => none
  | .nilCheck x => match ev x with
    | some (.pointer (some a)) => some (.same (.pointer (some a)))
    | some (.func f as cs) => some (.same (.func f as cs))
    | some (.iface t v) => some (.same (.iface t v))
    | _ => none
  | .binOp op t x y _ => match ev x, ev y with
    | some u, some v => match binA P op t (constO x) (constO y) u v with
      | some r => some (.same r)
      | none => none
    | _, _ => none
  | .unOp op _ x => match ev x with
    | some u => match unA op u with
      | some r => some (.same r)
      | none => none
    | none => none
  | .convert s d x => match ev x with
    | some u => match strBytesA P nx s d u with
      | some (v, ob) => some (.new v ob)
      | none => match convA P hp s d u with
        | some r => some (.same r)
        | none => none
    | none => none
  | .makeInterface t x => match ev x, P.concrete t with
    | some u, true => some (.same (.iface t u))
    | _, _ => none
  | .makeFunc (.func f) first captured => match evL ev first.toList, evL ev captured.toList with
    | some as, some cs => some (.same (.func (.func f) as.toArray cs.toArray))
    | _, _ => none
  | .makeMap _ none => some (.new (.map (some nx)) (.map [] 0))
  | .makeSlice t l c => match ev l, ev c with
    | some u, some v => match makeSliceA P nx t u v with
      | some (v, ob) => some (.new v ob)
      | none => none
    | _, _ => none
  | .slice t x lo hi mx => match ev x, evO ev lo, evO ev hi, evO ev mx with
    | some u, some l, some h, some m => match sliceA P hp t u l h m with
      | some r => some (.same r)
      | none => none
    | _, _, _, _ => none
  | .fieldAddr t x f => match ev x with
    | some u => match fieldAddrA P t u f with
      | some r => some (.same r)
      | none => none
    | none => none
  | .field t x f => match ev x with
    | some u => match fieldA P t u f with
      | some r => some (.same r)
      | none => none
    | none => none
  | .indexAddr t x i => match ev x, ev i with
    | some u, some v => match indexAddrA P t u v with
      | some r => some (.same r)
      | none => none
    | _, _ => none
  | .index t x i => match ev x, ev i with
    | some u, some v => match indexA P t u v with
      | some r => some (.same r)
      | none => none
    | _, _ => none
  | .lookup t m k ok => match ev m, ev k with
    | some u, some v => match lookupA P hp t u v ok with
      | some r => some (.same r)
      | none => none
    | _, _ => none
  | .extract t i => match ev t with
    | some u => match extractA u i with
      | some r => some (.same r)
      | none => none
    | none => none
  | .range t x => match ev x, P.underlying t with
    | some (.string s), some .string => some (.new (ptrTo nx) (.siter s 0))
    | some (.map none), some (.map _ _) => some (.new (ptrTo nx) (.iter none 0 []))
    | some (.map (some r)), some (.map _ _) => match hp.get r with
      | some (.map _ ck) => some (.new (ptrTo nx) (.iter (some r) ck []))
      | _ => none
    | _, _ => none
  | .call ⟨.builtin .len, args, ts⟩ => match args.toList, ts.toList with
    | [x], [t] => match ev x with
      | some u => match lenA P hp t u with
        | some r => some (.same r)
        | none => none
      | none => none
    | _, _ => none
  | .call ⟨.builtin .min, args, _⟩ => match evL ev args.toList with
    | some [u, v] => match minA u v with
      | some r => some (.same r)
      | none => none
    | _ => none
  | .call ⟨.builtin .max, args, _⟩ => match evL ev args.toList with
    | some [u, v] => match maxA u v with
      | some r => some (.same r)
      | none => none
    | _ => none
  | .call ⟨.builtin .unsafeSliceData, args, _⟩ => match evL ev args.toList with
    | some [.slice none _ _] => some (.same (.pointer none))
    | some [.slice (some ⟨b, o, none⟩) (_ + 1) (_ + 1)] => some (.same (.pointer (some ⟨b, o, none⟩)))
    | _ => none
  | _ => none

theorem ptrTo_rel (φ : Ren) (nx b fin sz : Nat) : VRel (φ.put nx ⟨b, 0, fin, sz⟩) (ptrTo nx) (.pointer (some ⟨b, 0, none⟩)) := by
  have := VRel.ptr (φ := φ.put nx ⟨b, 0, fin, sz⟩) (o := 0) (Ren.put_same φ nx _)
  simpa [ptrTo] using this

theorem args_one {ρ : Operand → Value} {args : Array Operand} {x : Operand} (h : args.toList = [x]) : args.map ρ = #[ρ x] := by
  have : args = #[x] := by apply Array.ext'; simpa using h
  subst this; simp

theorem evO_rel {φ : Ren} {ev : Operand → Option Value} {ρ : Operand → Value} (hev : ∀ x u, ev x = some u → VRel φ u (ρ x)) {x : Option Operand} {r : Option Value} (h : evO ev x = some r) : ORelV φ r (x.map ρ) := by
  cases x with
  | none => simp [evO] at h; subst h; trivial
  | some x =>
    simp only [evO] at h
    cases hx : ev x with
    | none => simp [hx] at h
    | some v => simp [hx] at h; subst h; exact hev x v hx

theorem lrel_two {φ : Ren} {u v : Value} {l : List Value} (h : LRel φ [u, v] l) : ∃ u' v', l = [u', v'] ∧ VRel φ u u' ∧ VRel φ v v' := by
  cases h with
  | cons h t => cases t with
    | cons h2 t2 => cases t2; exact ⟨_, _, rfl, h, h2⟩

theorem lrel_one {φ : Ren} {u : Value} {l : List Value} (h : LRel φ [u] l) : ∃ u', l = [u'] ∧ VRel φ u u' := by
  cases h with
  | cons h t => cases t; exact ⟨_, rfl, h⟩

theorem map_toList {ρ : Operand → Value} {args : Array Operand} {l : List Value} (h : args.toList.map ρ = l) : args.map ρ = l.toArray := by
  apply Array.ext'
  simpa using h

/-- What a quiet operation comes to. -/
def QSound (P : Program) (φ : Ren) (w : World) (nx : Nat) (o : Oper) (ρ : Operand → Value) : QR → Prop
  | .same v => ∃ v', (execOp ρ o).run P w = .ok (.value v') w ∧ VRel φ v v'
  | .new v ob => ∃ v' x l w2, (w2 = w ∨ w2 = w.drew) ∧ (execOp ρ o).run P w = .ok (.value v') (w2.alloc x) ∧ l.blk = w.heap.size ∧ VRel (φ.put nx l) v v' ∧ ORel (φ.put nx l) ob l (w2.alloc x)

theorem qnew {P : Program} {φ : Ren} {w : World} {nx : Nat} {o : Oper} {ρ : Operand → Value} {v : Value} {ob : AObj} (h : ∃ v' x l, (execOp ρ o).run P w = .ok (.value v') (w.alloc x) ∧ l.blk = w.heap.size ∧ VRel (φ.put nx l) v v' ∧ ORel (φ.put nx l) ob l (w.alloc x) ∧ ob.ro = false) :
    QSound P φ w nx o ρ (.new v ob) :=
  let ⟨v', x, l, h1, h2, h3, h4, _⟩ := h
  ⟨v', x, l, w, .inl rfl, h1, h2, h3, h4⟩

theorem qsame {P : Program} {φ : Ren} {w : World} {nx : Nat} {o : Oper} {ρ : Operand → Value} {v : Value} {s : Sem Value} (he : execOp ρ o = (do pure (.value (← s)))) (h : ∃ v', s.run P w = .ok v' w ∧ VRel φ v v') :
    QSound P φ w nx o ρ (.same v) := by
  obtain ⟨v', h1, h2⟩ := h
  exact ⟨v', by simp only [he, Sem.run_bind, h1, Result.andThen_ok, Sem.run_pure], h2⟩

theorem VRel.bool_eq {φ : Ren} {b : Bool} {v : Value} (h : VRel φ (.bool b) v) : v = .bool b := by cases h; rfl

set_option maxHeartbeats 1600000 in
theorem qop_sound {P : Program} {φ : Ren} {hp : Tr AObj} {w : World} {nx : Nat} {ev : Operand → Option Value} {ρ : Operand → Value} (hev : ∀ x u, ev x = some u → VRel φ u (ρ x)) (hw : WRel φ hp w) (hn : φ nx = none) {o : Oper} {r : QR}
    (h : qop P ev hp nx o.op = some r) : QSound P φ w nx o ρ r := by
  obtain ⟨dst, op, ty, pos, after, guard⟩ := o
  simp only at h
  unfold qop at h
  split at h
  case h_1 x =>
    split at h
    · rename_i v hx; cases h; exact ⟨_, by simp [execOp], hev _ _ hx⟩
    · cases h
  case h_2 x =>
    split at h
    · rename_i v hx; cases h; exact ⟨_, by simp [execOp], hev _ _ hx⟩
    · cases h
  case h_3 c a b =>
    split at h
    · rename_i t u v hc ha hb
      cases h
      have hc' := (hev _ _ hc).bool_eq
      cases t with
      | true => exact ⟨ρ a, by simp [execOp, asBool, hc'], hev _ _ ha⟩
      | false => exact ⟨ρ b, by simp [execOp, asBool, hc'], hev _ _ hb⟩
    · cases h
  case h_4 t =>
    split at h
    · rename_i z n hz hs
      cases hc : cst 8 z with
      | false => simp [hc] at h
      | true =>
        simp only [hc, cond_true, Option.some.injEq] at h
        subst h
        refine qnew ⟨.pointer (some ⟨w.heap.size, 0, none⟩), .cells z.cells t, ⟨w.heap.size, 0, z.cells.size, n⟩, ?_, rfl, ptrTo_rel _ _ _ _ _, ORel.new (cst_rel φ 8 z hc).cells t n _ (Ren.le_put hn), rfl⟩
        simp [execOp, Instr.alloc, run_zeroValue hz, newVar, newRow]
    · cases h
  case h_5 t x =>
    split at h
    · rename_i v n hx hs
      cases h
      have hr := (hev _ _ hx).cells
      refine qnew ⟨.pointer (some ⟨w.heap.size, 0, none⟩), .cells (ρ x).cells t, ⟨w.heap.size, 0, (ρ x).cells.size, n⟩, ?_, rfl, ptrTo_rel _ _ _ _ _, ORel.new (by simpa using hr) t n _ (Ren.le_put hn), rfl⟩
      simp [execOp, Instr.box, newVar, newRow]
    · cases h
  case h_6 t ps =>
    split at h
    · rename_i parts hp2
      split at h
      · rename_i v hb
        cases h
        have hr := evP_rel hev _ _ hp2
        obtain ⟨v', g1, g2⟩ := buildA_sound (P := P) hr hb w
        refine qsame (s := Instr.build t (ps.map fun (i, x) => (i, ρ x))) rfl ⟨v', ?_, g2⟩
        have : (ps.toList.map fun p => (p.1, ρ p.2)).toArray = ps.map fun (i, x) => (i, ρ x) := by apply Array.ext'; simp
        rw [← this]; exact g1
      · cases h
    · cases h
  case h_7 t len ps =>
    split at h
    · rename_i parts hp2
      have hr := evP_rel hev _ _ hp2
      have this : (ps.toList.map fun p => (p.1, ρ p.2)).toArray = ps.map fun (i, x) => (i, ρ x) := by apply Array.ext'; simp
      split at h
      · rename_i v ob hb
        cases h
        obtain ⟨v', x, l, g1, g2⟩ := buildSliceA_sound (P := P) (w := w) hn hr hb
        refine qnew ⟨v', x, l, ?_, g2⟩
        rw [this] at g1
        simp only [execOp, Sem.run_bind, g1, Result.andThen_ok, Sem.run_pure]
      · cases h
    · cases h
  case h_8 t a =>
    split at h
    · rename_i b o ha
      split at h
      · rename_i v hl
        cases h
        have hr := hev _ _ ha
        generalize hra : ρ a = a' at hr
        cases hr with
        | @ptr _ _ l hlo =>
          obtain ⟨v', g1, g2⟩ := ldVar_sound hw hl hlo
          refine qsame (s := Instr.loadAt t (ρ a)) rfl ⟨v', ?_, g2⟩
          rw [hra]; simp [Instr.loadAt, Instr.sureAddr, g1]
      · cases h
    · cases h
  case h_9 x =>
    split at h
    · rename_i a hx
      cases h
      have hr := hev _ _ hx
      generalize hra : ρ x = x' at hr
      have hr0 := hr
      cases hr; exact ⟨_, by simp [execOp, hra], hr0⟩
    · rename_i f as cs hx
      cases h
      have hr := hev _ _ hx
      generalize hra : ρ x = x' at hr
      have hr0 := hr
      cases hr; exact ⟨_, by simp [execOp, hra], hr0⟩
    · rename_i t v hx
      cases h
      have hr := hev _ _ hx
      generalize hra : ρ x = x' at hr
      have hr0 := hr
      cases hr; exact ⟨_, by simp [execOp, hra], hr0⟩
    · cases h
  case h_10 op t x y yt =>
    split at h
    · rename_i u v hx hy
      split at h
      · rename_i r hb
        cases h
        obtain ⟨g1, g2⟩ := binA_sound (P := P) (w := w) (hev _ _ hx) (hev _ _ hy) hb
        exact qsame (s := do eqGuard op t x y (ρ x) (ρ y); binOp op t (ρ x) (ρ y)) rfl ⟨_, g1, cst_rel φ 0 _ g2⟩
      · cases h
    · cases h
  case h_11 op t x =>
    split at h
    · rename_i u hx
      split at h
      · rename_i r hb
        cases h
        obtain ⟨g1, g2⟩ := unA_sound (P := P) (hev _ _ hx) hb w
        exact qsame (s := Op.unary op (ρ x)) rfl ⟨_, g1, cst_rel φ 0 _ g2⟩
      · cases h
    · cases h
  case h_12 s d x =>
    split at h
    · rename_i u hx
      split at h
      · rename_i v ob hb
        cases h
        obtain ⟨v', x2, l, g1, g2⟩ := strBytesA_sound (P := P) (w := w) hn (hev _ _ hx) hb
        refine ⟨v', x2, l, w.drew, .inr rfl, ?_, g2⟩
        simp only [execOp, Sem.run_bind, g1, Result.andThen_ok, Sem.run_pure]
      · split at h
        · rename_i r hb
          cases h
          exact qsame (s := convert s d (ρ x)) rfl (convA_sound hw (hev _ _ hx) hb)
        · cases h
    · cases h
  case h_13 t x =>
    split at h
    · rename_i u hx hc
      cases h
      exact qsame (s := Instr.makeInterface t (ρ x)) rfl ⟨_, run_makeInterface w t (ρ x) hc, .iface t (hev _ _ hx)⟩
    · cases h
  case h_14 f first captured =>
    split at h
    · rename_i as cs h1 h2
      cases h
      have r1 := (evL_rel hev _ _ h1).arel
      have r2 := (evL_rel hev _ _ h2).arel
      have e1 : (first.toList.map ρ).toArray = first.map ρ := by apply Array.ext'; simp
      have e2 : (captured.toList.map ρ).toArray = captured.map ρ := by apply Array.ext'; simp
      rw [e1] at r1
      rw [e2] at r2
      exact qsame (s := Instr.makeFunc (.func f) (first.map ρ) (captured.map ρ)) rfl ⟨_, by simp [Instr.makeFunc], .func f r1.1 r1.2 r2.1 r2.2⟩
    · cases h
  case h_15 t =>
    cases h
    refine qnew ⟨.map (some w.heap.size), .map #[] 0, ⟨w.heap.size, 0, 0, 0⟩, by simp [execOp, run_makeMap], rfl, ?_, ?_, rfl⟩
    · exact VRel.map (Ren.put_same φ nx ⟨w.heap.size, 0, 0, 0⟩)
    · exact ⟨#[], heap_alloc_at _ _, [], .refl _, .nil, by simp, by simp, by simp⟩
  case h_16 t l c =>
    split at h
    · rename_i u v hl hc
      split at h
      · rename_i v2 ob hb
        cases h
        obtain ⟨v', x, lc, g1, g2⟩ := makeSliceA_sound (P := P) (w := w) hn (hev _ _ hl) (hev _ _ hc) hb
        refine qnew ⟨v', x, lc, ?_, g2⟩
        simp only [execOp, Sem.run_bind, g1, Result.andThen_ok, Sem.run_pure]
      · cases h
    · cases h
  case h_17 t x lo hi mx =>
    split at h
    · rename_i u l hh m hx hl hhi hm
      split at h
      · rename_i r hb
        cases h
        exact qsame (s := Instr.sliceAt t (ρ x) (lo.map ρ) (hi.map ρ) (mx.map ρ)) rfl (sliceA_sound hw (hev _ _ hx) (evO_rel hev hl) (evO_rel hev hhi) (evO_rel hev hm) hb)
      · cases h
    · cases h
  case h_18 t x f =>
    split at h
    · rename_i u hx
      split at h
      · rename_i r hb
        cases h
        exact qsame (s := Instr.fieldAt t (ρ x) f) rfl (fieldAddrA_sound (hev _ _ hx) hb w)
      · cases h
    · cases h
  case h_19 t x f =>
    split at h
    · rename_i u hx
      split at h
      · rename_i r hb
        cases h
        exact qsame (s := Instr.field t (ρ x) f) rfl (fieldA_sound (hev _ _ hx) hb w)
      · cases h
    · cases h
  case h_20 t x i =>
    split at h
    · rename_i u v hx hi
      split at h
      · rename_i r hb
        cases h
        exact qsame (s := Instr.indexAt t (ρ x) (ρ i)) rfl (indexAddrA_sound (hev _ _ hx) (hev _ _ hi) hb w)
      · cases h
    · cases h
  case h_21 t x i =>
    split at h
    · rename_i u v hx hi
      split at h
      · rename_i r hb
        cases h
        exact qsame (s := Instr.index t (ρ x) (ρ i)) rfl (indexA_sound (hev _ _ hx) (hev _ _ hi) hb w)
      · cases h
    · cases h
  case h_22 t m k ok =>
    split at h
    · rename_i u v hm hk
      split at h
      · rename_i r hb
        cases h
        exact qsame (s := Instr.lookup t (ρ m) (ρ k) ok) rfl (lookupA_sound hw (hev _ _ hm) (hev _ _ hk) hb)
      · cases h
    · cases h
  case h_23 t i =>
    split at h
    · rename_i u hx
      split at h
      · rename_i r hb
        cases h
        exact qsame (s := Instr.extract (ρ t) i) rfl (extractA_sound (hev _ _ hx) hb w)
      · cases h
    · cases h
  case h_24 t x =>
    split at h
    · rename_i s hx hu
      cases h
      have hr := hev _ _ hx
      generalize hra : ρ x = x' at hr
      cases hr
      refine qnew ⟨.pointer (some ⟨w.heap.size, 0, none⟩), .stringIter s 0, ⟨w.heap.size, 0, 0, 0⟩, ?_, rfl, ptrTo_rel _ _ _ _ _, ⟨rfl, heap_alloc_at _ _⟩, rfl⟩
      simp [execOp, hra, Instr.range, run_underlying hu]
    · rename_i k e hx hu
      cases h
      have hr := hev _ _ hx
      generalize hra : ρ x = x' at hr
      cases hr
      refine qnew ⟨.pointer (some ⟨w.heap.size, 0, none⟩), .mapIter none 0 #[] 0, ⟨w.heap.size, 0, 0, 0⟩, ?_, rfl, ptrTo_rel _ _ _ _ _, ⟨rfl, none, #[], heap_alloc_at _ _, rfl⟩, rfl⟩
      simp [execOp, hra, Instr.range, run_underlying hu]
    · rename_i m k e hx hu
      split at h
      · rename_i es ck hg
        cases h
        have hr := hev _ _ hx
        generalize hra : ρ x = x' at hr
        cases hr with
        | @map _ lm hlm =>
          obtain ⟨ea, h1, h2⟩ := hw.obj _ _ _ hg hlm
          have hlt : lm.blk < w.heap.size := (hw.obj _ _ _ hg hlm).blk_lt
          refine qnew ⟨.pointer (some ⟨w.heap.size, 0, none⟩), .mapIter (some lm.blk) ck #[] ck, ⟨w.heap.size, 0, 0, 0⟩, ?_, rfl, ptrTo_rel _ _ _ _ _,
            ⟨rfl, some lm.blk, #[], heap_alloc_at _ _, lm, Ren.le_put hn _ _ hlm, rfl, ea, ck, (heap_alloc_lt _ _ hlt).trans h1, Nat.le_refl _, fun _ e _ => by simp, fun k rest hk => by cases hk⟩, rfl⟩
          simp [execOp, hra, Instr.range, run_underlying hu, getObj, Sem.run, h1]
      · cases h
    · cases h
  case h_25 args ts =>
    split at h
    · rename_i x t hxs hts
      split at h
      · rename_i u hx
        split at h
        · rename_i r hb
          cases h
          obtain ⟨g1, g2⟩ := lenA_sound (P := P) (ty := ty) hw (hev _ _ hx) hb
          have e1 : args.map ρ = #[ρ x] := args_one hxs
          have e2 : ts = #[t] := by apply Array.ext'; simpa using hts
          refine ⟨_, ?_, cst_rel φ 0 _ g2⟩
          simp [execOp, resolve, invoke, builtin, e1, e2, g1]
        · cases h
      · cases h
    · cases h
  case h_26 args ts =>
    split at h
    · rename_i u v hxs
      split at h
      · rename_i r hb
        cases h
        obtain ⟨u', v', e, r1, r2⟩ := lrel_two (evL_rel hev _ _ hxs)
        have e1 := map_toList e
        unfold minA at hb
        split at hb
        · cases hb
          cases r1; cases r2
          refine ⟨_, ?_, .int _ _⟩
          simp [execOp, resolve, invoke, builtin, e1, Builtin.min_, Builtin.min2]
        · cases hb
      · cases h
    · cases h
  case h_27 args ts =>
    split at h
    · rename_i u v hxs
      split at h
      · rename_i r hb
        cases h
        obtain ⟨u', v', e, r1, r2⟩ := lrel_two (evL_rel hev _ _ hxs)
        have e1 := map_toList e
        unfold maxA at hb
        split at hb
        · cases hb
          cases r1; cases r2
          refine ⟨_, ?_, .int _ _⟩
          simp [execOp, resolve, invoke, builtin, e1, Builtin.max_, Builtin.max2]
        · cases hb
      · cases h
    · cases h
  case h_28 args ts =>
    split at h
    · rename_i n c hxs
      cases h
      obtain ⟨u', e, r1⟩ := lrel_one (evL_rel hev _ _ hxs)
      have e1 := map_toList e
      cases r1
      refine ⟨_, ?_, .pnil⟩
      simp [execOp, resolve, invoke, builtin, e1, Lib.run_unsafeSliceData_nil]
    · rename_i b o n c hxs
      cases h
      obtain ⟨u', e, r1⟩ := lrel_one (evL_rel hev _ _ hxs)
      have e1 := map_toList e
      generalize hc : c + 1 = c1 at r1
      cases r1 with
      | slice hl hcc =>
        refine ⟨_, ?_, .ptr hl⟩
        simp [execOp, resolve, invoke, builtin, e1, Lib.run_unsafeSliceData_row w _ _ _ _ (c + 1) (by omega)]
      | sopen hl hlen hx hfin hexact =>
        rename_i x c2 l
        refine ⟨_, ?_, .ptr hl⟩
        rw [(hexact (by omega)).1] at e1
        simp [execOp, resolve, invoke, builtin, e1, Lib.run_unsafeSliceData_row w _ _ _ _ c2 (by omega)]
    · cases h
  case h_29 => cases h

end Go.Proofs.YtkjkoejnicbieaaGreat.AM

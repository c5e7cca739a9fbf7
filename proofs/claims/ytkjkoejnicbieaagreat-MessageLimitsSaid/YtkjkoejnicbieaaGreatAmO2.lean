/-
  Arguments opened: messages; and how a law's call closes its row.
-/
import Derived.Test.YtkjkoejnicbieaaGreatAmO1
import Derived.Test.YtkjkoejnicbieaaGreatAmF1
import Derived.Test.YtkjkoejnicbieaaGreatRows
import Derived.ProofKit
namespace Go.Proofs.YtkjkoejnicbieaaGreat.AM
open Go Go.RowKit Go.ChangeShapes Go.WideShapes

noncomputable def fields31 : Array Field := match Tryz.prog.underlying 31 with | some (.struct fs) => fs | _ => #[]
theorem und31 : Tryz.prog.underlying 31 = some (.struct fields31) := by kernel_rfl
theorem off31 : fields31.toList.map (fun f => (f.type, f.offset)) = [(9, 0), (29, 1)] := by kernel_rfl
theorem cells9 : Tryz.prog.cellsOf 9 = 1 := by kernel_rfl
theorem cells28 : Tryz.prog.cellsOf 28 = 1 := by kernel_rfl
theorem cells29 : Tryz.prog.cellsOf 29 = 1 := by kernel_rfl
theorem cells31 : Tryz.prog.cellsOf 31 = 2 := by kernel_rfl
theorem cells5 : Tryz.prog.cellsOf 5 = 1 := by kernel_rfl
theorem by9 : 0 < Tryz.prog.bytesOf 9 := by rw [show Tryz.prog.bytesOf 9 = 16 by kernel_rfl]; decide
theorem by28 : 0 < Tryz.prog.bytesOf 28 := by rw [show Tryz.prog.bytesOf 28 = 24 by kernel_rfl]; decide
theorem by31 : 0 < Tryz.prog.bytesOf 31 := by rw [show Tryz.prog.bytesOf 31 = 40 by kernel_rfl]; decide
theorem reach_lt : reachBytes < BIG := by decide

theorem list_two {α : Type} {l : List α} (h : l.length = 2) : ∃ a b, l = [a, b] := by
  cases l with
  | nil => cases h
  | cons a l => cases l with
    | nil => cases h
    | cons b l => cases l with
      | nil => exact ⟨a, b, rfl⟩
      | cons c l => simp at h
theorem map_two {l : List Field} {t u o p : Nat} (h : l.map (fun f => (f.type, f.offset)) = [(t, o), (u, p)]) : ∃ f0 f1, l = [f0, f1] ∧ f0.type = t ∧ f0.offset = o ∧ f1.type = u ∧ f1.offset = p := by
  obtain ⟨a, b, rfl⟩ := list_two (l := l) (by have := congrArg List.length h; simpa using this)
  simp only [List.map_cons, List.map_nil, List.cons.injEq, Prod.mk.injEq, and_true] at h
  exact ⟨a, b, rfl, h.1.1, h.1.2, h.2.1, h.2.2⟩

section
variable {H : Type} {enc : TypeId × Value → H} {W : World}

def RdS (_ : Tr AObj) (us : List Value) (s : ByteArray) : Prop := us = [.string s]
def OkS (s : ByteArray) : Prop := s.size ≤ reachBytes
def Rd28 := RdRow 1 (⟨#[]⟩ : ByteArray) RdS
def Ok28 (l : List ByteArray) : Prop := l.length ≤ reachBytes ∧ ∀ x ∈ l, OkS x
def Rd29 := RdRow 1 ([] : List ByteArray) Rd28
def Ok29 (l : List (List ByteArray)) : Prop := l.length ≤ reachBytes ∧ ∀ x ∈ l, Ok28 x
def Rd31 (hp : Tr AObj) (us : List Value) (x : Seg) : Prop := ∃ u, us = [.string x.tag, u] ∧ Rd29 hp [u] x.els
def Ok31 (x : Seg) : Prop := OkS x.tag ∧ Ok29 x.els
def Rd22 := RdRow 2 (default : Seg) Rd31
def Ok22 (l : List Seg) : Prop := l.length ≤ reachBytes ∧ ∀ x ∈ l, Ok31 x

theorem rdRow_mono {α : Type} {sz : Nat} {d0 : α} {Rd : Tr AObj → List Value → α → Prop} (mono : ∀ x hp hp' us, Rd hp us x → Sub hp hp' → Rd hp' us x) : ∀ x hp hp' us, RdRow sz d0 Rd hp us x → Sub hp hp' → RdRow sz d0 Rd hp' us x := by
  rintro l hp hp' us ⟨ba, cap, rfl, h⟩ hs
  refine ⟨ba, cap, rfl, fun h0 => ?_⟩
  obtain ⟨b, c, e, fz, ro, hd, h1, h2, h3⟩ := h h0
  exact ⟨b, c, e, fz, ro, hd, h1, hs _ _ h2, fun i hi => mono _ _ _ _ (h3 i hi) hs⟩
theorem rdS_mono : ∀ x hp hp' us, RdS hp us x → Sub hp hp' → RdS hp' us x := fun _ _ _ _ h _ => h
theorem rd28_mono : ∀ x hp hp' us, Rd28 hp us x → Sub hp hp' → Rd28 hp' us x := rdRow_mono rdS_mono
theorem rd29_mono : ∀ x hp hp' us, Rd29 hp us x → Sub hp hp' → Rd29 hp' us x := rdRow_mono rd28_mono
theorem rd31_mono : ∀ x hp hp' us, Rd31 hp us x → Sub hp hp' → Rd31 hp' us x := fun x _ _ _ ⟨u, h1, h2⟩ hs => ⟨u, h1, rd29_mono _ _ _ _ h2 hs⟩

theorem opens9 : Opens enc Tryz.prog W 9 1 RdS OkS := opens_string un9
theorem opens28 : Opens enc Tryz.prog W 28 1 Rd28 Ok28 := opens_slice un28 cells9 (by decide) by9 rdS_mono opens9
theorem opens29 : Opens enc Tryz.prog W 29 1 Rd29 Ok29 := opens_slice un29 cells28 (by decide) by28 rd28_mono opens28

theorem opens31 : Opens enc Tryz.prog W 31 2 Rd31 Ok31 := by
  intro fuel cs d ps h hw
  obtain ⟨xs, n, _, hx, hl, hlen, hf⟩ := DataW.trod_struct und31 h
  simp only [Prod.mk.injEq] at hx
  obtain ⟨rfl, _⟩ := hx
  obtain ⟨f0, f1, hq, t0, o0, t1, o1⟩ := map_two off31
  have hsz : fields31.size = 2 := by rw [← Array.length_toList, hq]; rfl
  have g0 := hf 0 f0 (by rw [← Array.getElem?_toList, hq]; rfl)
  have g1 := hf 1 f1 (by rw [← Array.getElem?_toList, hq]; rfl)
  rw [t0, o0, cells9] at g0
  rw [t1, o1, cells29] at g1
  rw [cells31] at hl
  rw [hsz] at hlen
  obtain ⟨⟨d0, p0⟩, ⟨d1, p1⟩, rfl⟩ := list_two hlen
  obtain ⟨c0, c1, rfl⟩ := list_two hl
  have hw' : ∀ n ∈ d0.weights Tryz.prog 9 ++ d1.weights Tryz.prog 29, n ≤ reachBytes := by
    intro n hn
    refine hw n ?_
    simp only [DataW.weights, und31, hq, List.map_cons, List.map_nil, DataW.weightsEach, t0, t1, List.append_nil]
    exact hn
  have g0' : DataW.trod enc Tryz.prog W 0 (fun _ => true) true n 9 [c0] = some (d0, p0) := g0
  have g1' : DataW.trod enc Tryz.prog W 0 (fun _ => true) true n 29 [c1] = some (d1, p1) := g1
  obtain ⟨s, k1, _, k2⟩ := opens9 n [c0] d0 p0 g0' fun m hm => hw' m (List.mem_append.2 (.inl hm))
  obtain ⟨l, m1, _, m2⟩ := opens29 n [c1] d1 p1 g1' fun m hm => hw' m (List.mem_append.2 (.inr hm))
  refine ⟨⟨s, l⟩, ⟨k1, m1⟩, rfl, fun φ hp nx I => ?_⟩
  obtain ⟨φ1, h1, n1, us, I1, U1, L1, R1⟩ := k2 φ hp nx I
  obtain ⟨φ2, h2, n2, vs, I2, U2, L2, R2⟩ := m2 φ1 h1 n1 I1
  unfold RdS at R1
  subst R1
  obtain ⟨ba, cap, rfl, R2'⟩ := R2
  refine ⟨φ2, h2, n2, [.string s, .slice ba l.length cap], I2, U1.trans U2, ?_, _, rfl, ba, cap, rfl, R2'⟩
  cases L1 with
  | cons a1 b1 =>
    cases L2 with
    | cons a2 b2 => exact .cons (a1.mono U2.le) (.cons a2 .nil)

theorem opens22 : Opens enc Tryz.prog W 22 1 Rd22 Ok22 := opens_slice un22 cells31 (by decide) by31 rd31_mono opens31

/-! ### What is opened is what the contracts ask for -/
theorem take_one {c : List Value} {k : Nat} {u : Value} (h : (c.drop k).take 1 = [u]) : c[k]? = some u := by
  have := congrArg (fun l => l[0]?) h
  simp only [List.getElem?_cons_zero] at this
  rw [List.getElem?_take] at this
  simpa using this

theorem rd28_strs {hp : Tr AObj} {u : Value} {l : List ByteArray} (h : Rd28 hp [u] l) : RdStrs hp u l := by
  obtain ⟨ba, cap, hu, h⟩ := h
  cases hu
  refine ⟨ba, cap, rfl, fun h0 => ?_⟩
  obtain ⟨b, c, e, fz, ro, hd, h1, h2, h3⟩ := h h0
  refine ⟨b, 0, c, e, fz, ro, hd, h1, h2, fun i hi => ?_⟩
  exact ⟨_, by rw [Nat.zero_add]; exact take_one (h3 i hi), rfl⟩

theorem rdRow_one {α : Type} {sz : Nat} {d0 : α} {Rd : Tr AObj → List Value → α → Prop} {hp : Tr AObj} {us : List Value} {l : List α} (h : RdRow sz d0 Rd hp us l) : ∃ u, us = [u] := by
  obtain ⟨ba, cap, rfl, _⟩ := h; exact ⟨_, rfl⟩

theorem rd29_els {hp : Tr AObj} {u : Value} {l : List (List ByteArray)} (h : Rd29 hp [u] l) : RdEls hp u l := by
  obtain ⟨ba, cap, hu, h⟩ := h
  cases hu
  refine ⟨ba, cap, rfl, fun h0 => ?_⟩
  obtain ⟨b, c, e, fz, ro, hd, h1, h2, h3⟩ := h h0
  refine ⟨b, 0, c, e, fz, ro, hd, h1, h2, fun i hi => ?_⟩
  have := h3 i hi
  obtain ⟨w, hw⟩ := rdRow_one this
  rw [hw] at this
  exact ⟨w, by rw [Nat.zero_add]; exact take_one hw, rd28_strs this⟩

theorem rd22_msg {hp : Tr AObj} {u : Value} {m : List Seg} (h : Rd22 hp [u] m) : RdMsg hp u m := by
  obtain ⟨ba, cap, hu, h⟩ := h
  cases hu
  refine ⟨ba, cap, rfl, fun h0 => ?_⟩
  obtain ⟨b, c, e, fz, ro, hd, h1, h2, h3⟩ := h h0
  refine ⟨b, 0, c, e, fz, ro, hd, h1, h2, fun i hi => ?_⟩
  obtain ⟨w, k1, k2⟩ := h3 i hi
  have a0 := congrArg (fun l => l[0]?) k1
  have a1 := congrArg (fun l => l[1]?) k1
  simp only [List.getElem?_cons_zero, List.getElem?_cons_succ, List.getElem?_take, List.getElem?_drop] at a0 a1
  refine ⟨?_, w, ?_, rd29_els k2⟩
  · rw [Nat.zero_add]; simpa using a0
  · rw [Nat.zero_add]; simpa using a1

theorem ok22_fits {m : List Seg} (h : Ok22 m) : Fits m := by
  have hr := reach_lt
  refine ⟨Nat.lt_of_le_of_lt h.1 hr, fun x hx => ?_⟩
  obtain ⟨h1, h2, h3⟩ := h.2 x hx
  exact ⟨Nat.lt_of_le_of_lt h1 hr, Nat.lt_of_le_of_lt h2 hr, fun y hy => ⟨Nat.lt_of_le_of_lt (h3 y hy).1 hr, fun s hs => Nat.lt_of_le_of_lt ((h3 y hy).2 s hs) hr⟩⟩

/-- One argument, opened on what is opened before it. -/
theorem open_arg {t : TypeId} {α : Type} {Rd : Tr AObj → List Value → α → Prop} {Ok : α → Prop} (O : Opens enc Tryz.prog W t 1 Rd Ok) {v : Value} (hv : v.cells = #[v]) {d : DataW H} {ps : List MemPlace} (h : DataW.Trod enc Tryz.prog W 0 (fun _ => true) true t v d ps) (hw : ∀ n ∈ d.weights Tryz.prog t, n ≤ reachBytes) (one : ∀ hp us x, Rd hp us x → ∃ u, us = [u]) {φ : Ren} {hp : Tr AObj} {nx : Nat} (I : Inv W φ hp nx) :
    ∃ x, Ok x ∧ ∃ φ' hp' nx' u, Inv W φ' hp' nx' ∧ Up φ hp nx φ' hp' nx' ∧ VRel φ' u v ∧ Rd hp' [u] x := by
  obtain ⟨fuel, h⟩ := h
  rw [hv] at h
  obtain ⟨x, k1, _, k2⟩ := O fuel [v] d ps h hw
  obtain ⟨φ', hp', nx', us, I', U', L', R'⟩ := k2 φ hp nx I
  obtain ⟨u, rfl⟩ := one _ _ _ R'
  cases L' with
  | cons a _ => exact ⟨x, k1, φ', hp', nx', u, I', U', a, R'⟩

/-! ### The call -/
/-- A call that answers 'true' and writes nothing that was there. -/
theorem calls_true {f : FuncId} {fn : Func} {c : Code} (hf : Tryz.prog.funcs[f]? = some fn) (hc : fn.body = some c) {l : List Value} {hp : Tr AObj} {nx : Nat} {φ : Ren} (I : Inv W φ hp nx) {args : Array Value} (hl : LRel φ l args.toList)
    (h : ACall Tryz.prog 0 f l hp nx (fun v hp' nx' => v = .bool true ∧ hp' = hp ∧ nx' = nx)) :
    Calls Tryz.prog f args W fun e W' => e = .returned (.bool true) ∧ Below W.heap.size W W' := by
  rcases h φ W args (fun g hg => absurd hg (Nat.not_lt_zero g)) hl I.rel I.dom with ⟨_, h2⟩ | ⟨v, w', h1, _⟩
  · refine h2.mono fun e w' he => ?_
    cases e with
    | returned v =>
      obtain ⟨v', hp', nx', ⟨rfl, _, _⟩, φ', hx, _, _, hrel⟩ := he
      rw [hrel.bool_eq]
      refine ⟨rfl, hx.below (Nat.le_refl _) fun k _ ⟨i, o, l, a1, a2, _⟩ => ?_⟩
      rw [I.ro i o a1] at a2; cases a2
    | panicked c => exact he.elim
    | outgrown => exact he.elim
  · exfalso
    have : (callFunc f args).run Tryz.prog W = .ok (.enter f args) W := by
      simp only [callFunc, Sem.run_bind, run_program, Result.andThen_ok, hf, named7 f _ hf, hc]
      rfl
    rw [this] at h1
    cases h1

theorem laidOut7 : laidOutB Tryz.prog = true := by kernel_rfl
theorem own7 : ownKnob Tryz.prog.godebug = none := by kernel_rfl

/-- What the row asks behind the call. -/
theorem law_post {f : Func} {s : ChangeSpec} {W' : World} {args : Array Value} {ds : List (DataW H)} {before : List MemPlace} (hv : s.vars = []) (hr : f.resultTypes = #[4]) (h4 : Tryz.prog.underlying 4 = some .bool)
    (hW : DataW.Whole enc Tryz.prog f.params.toList s.vars false W args.toList ds [] before) (hfn : s.fn H (ds ++ []) = { results := [.lit (.bool true)], args := ds }) (hb : Below W.heap.size W W')
    (hA : ∀ sp : Nat → Bool, (∀ p ∈ before, sp p.block = true) → DataW.TrodAll enc Tryz.prog W' 0 sp true f.params.toList args.toList ds before) :
    s.post enc Tryz.prog f false true false false W args (.bool true) W' := by
  have hlt := hW.lt
  refine ⟨ds, [], before, [], before, [], hW, ?_, ?_, ?_, hb.frame _, fun h => by cases h⟩
  · rw [hfn, hr]
    exact trodAll_mk1 (shut_bool h4 true)
  · rw [hfn]
    exact hA _ fun p hp => by simpa using hlt p hp
  · rw [hfn, hv]; rfl
end
end Go.Proofs.YtkjkoejnicbieaaGreat.AM

/-
  The message's replacer: where it lies, and the step that builds it.
-/
import Derived.Test.YtkjkoejnicbieaaGreatAmR1
namespace Go.Proofs.YtkjkoejnicbieaaGreat.AM
open Go Go.RowKit

/-! ### What it is, built -/
def repIx (c : Nat) : Option Nat := if c = 39 then some 10 else if c = 43 then some 16 else if c = 58 then some 13 else if c = 63 then some 7 else none
def repV (x : Nat → Nat) (c : Nat) : Value := match repIx c with
  | none => .slice none 0 0
  | some b => .slice (some ⟨x b, 0, none⟩) 2 OPEN
def cellsOf (h : Tr AObj) (i : Nat) : List Value := match h.get i with
  | some (.cells c _ _ _ _ _) => c
  | _ => []
def isCells (h : Tr AObj) (i : Nat) : Bool := match h.get i with
  | some (.cells _ _ _ _ _ _) => true
  | _ => false
theorem isCells_eq {h : Tr AObj} {i : Nat} (k : isCells h i = true) : ∃ e sz fz ro hd, h.get i = some (.cells (cellsOf h i) e sz fz ro hd) := by
  unfold isCells at k
  unfold cellsOf
  split at k
  · rename_i hk; rw [hk]; exact ⟨_, _, _, _, _, rfl⟩
  · cases k
noncomputable def twoOk (i c : Nat) : Bool := isCells H3 i && listEq (valEq 8) (cellsOf H3 i) [.int .u8 63, .int .u8 (c : Int)]
def bigOk (cs : List Value) : Bool := Nat.beq cs.length 257 && (List.range 256).all (fun c => valEq 8 (cs.getD c .nilIface) (repV id c)) && valEq 8 (cs.getD 256 .nilIface) (.slice (some ⟨3, 0, none⟩) 4 4)
def topOk (cs : List Value) : Bool := listEq (valEq 8) cs [.int .u32 1, .int .i32 0, .int .u32 0, .iface 152 (.pointer (some ⟨4, 0, none⟩)), .slice none 0 0]

set_option maxRecDepth 100000 in
theorem H3_ok : (isCells H3 2 && topOk (cellsOf H3 2) && isCells H3 4 && bigOk (cellsOf H3 4) && twoOk 7 63 && twoOk 10 39 && twoOk 13 58 && twoOk 16 43) = true := by kernel_rfl

/-- The library's replacer of single bytes, there. -/
structure BRep (hp : Tr AObj) (q : Nat) : Prop where
  big : ∃ (x : Nat → Nat) (t : Nat) (cs : List Value) (e sz fz : Nat) (ro hd : Bool), hp.get q = some (.cells cs e sz fz ro hd) ∧ cs.length = 257 ∧ (∀ c, c < 256 → cs[c]? = some (repV x c)) ∧ cs[256]? = some (.slice (some ⟨t, 0, none⟩) 4 4) ∧
    ∀ c b, repIx c = some b → ∃ e sz fz ro hd, hp.get (x b) = some (.cells [.int .u8 63, .int .u8 (c : Int)] e sz fz ro hd)

/-! ### Where it lies -/
structure Holds (h0 : Tr AObj) (n0 : Nat) (ρ : Nat → Nat) (hp : Tr AObj) (nx : Nat) (A : Nat → Prop) : Prop where
  inj : ∀ i j, i < n0 → j < n0 → ρ i = ρ j → i = j
  lt : ∀ i, i < n0 → ρ i < nx
  off : ∀ i, i < n0 → ¬ A (ρ i)
  get : ∀ i o, h0.get i = some o → i < n0 ∧ hp.get (ρ i) = some (renO ρ o)

theorem Holds.keep {h0 : Tr AObj} {n0 : Nat} {ρ : Nat → Nat} {hp hp' : Tr AObj} {nx nx' : Nat} {A A' : Nat → Prop} (h : Holds h0 n0 ρ hp nx A) (hn : nx ≤ nx') (hA : ∀ i, i < nx → A' i → A i) (hk : ∀ i, i < nx → ¬ A i → hp'.get i = hp.get i) : Holds h0 n0 ρ hp' nx' A' :=
  ⟨h.inj, fun i hi => Nat.lt_of_lt_of_le (h.lt i hi) hn, fun i hi ha => h.off i hi (hA _ (h.lt i hi) ha), fun i o ho => by
    obtain ⟨h1, h2⟩ := h.get i o ho
    exact ⟨h1, by rw [hk _ (h.lt i h1) (h.off i h1)]; exact h2⟩⟩

/-- The replacer, before its first use or after it. -/
def Rep (hp : Tr AObj) (nx r : Nat) (A : Nat → Prop) : Prop := ∃ ρ, ρ 2 = r ∧ (Holds H2 3 ρ hp nx A ∨ Holds H3 17 ρ hp nx A)

theorem Rep.keep {hp hp' : Tr AObj} {nx nx' r : Nat} {A A' : Nat → Prop} (h : Rep hp nx r A) (hn : nx ≤ nx') (hA : ∀ i, i < nx → A' i → A i) (hk : ∀ i, i < nx → ¬ A i → hp'.get i = hp.get i) : Rep hp' nx' r A' := by
  obtain ⟨ρ, h1, h2⟩ := h
  exact ⟨ρ, h1, h2.imp (fun h => h.keep hn hA hk) (fun h => h.keep hn hA hk)⟩

theorem Holds.brep {ρ : Nat → Nat} {hp : Tr AObj} {nx : Nat} {A : Nat → Prop} (h : Holds H3 17 ρ hp nx A) :
    (∃ e sz fz ro hd, hp.get (ρ 2) = some (.cells [.int .u32 1, .int .i32 0, .int .u32 0, .iface 152 (.pointer (some ⟨ρ 4, 0, none⟩)), .slice none 0 0] e sz fz ro hd)) ∧ BRep hp (ρ 4) := by
  have k := H3_ok
  simp only [Bool.and_eq_true] at k
  obtain ⟨⟨⟨⟨⟨⟨⟨k1, k2⟩, k3⟩, k4⟩, k5⟩, k6⟩, k7⟩, k8⟩ := k
  have two : ∀ i c, twoOk i c = true → ∃ e sz fz ro hd, hp.get (ρ i) = some (.cells [.int .u8 63, .int .u8 (c : Int)] e sz fz ro hd) := by
    intro i c ht
    unfold twoOk at ht
    simp only [Bool.and_eq_true] at ht
    obtain ⟨e, sz, fz, ro, hd, hg⟩ := isCells_eq ht.1
    have he := listEq_eq (valEq_eq 8) _ _ ht.2
    rw [he] at hg
    exact ⟨e, sz, fz, ro, hd, (h.get _ _ hg).2⟩
  constructor
  · obtain ⟨e, sz, fz, ro, hd, hg⟩ := isCells_eq k1
    unfold topOk at k2
    rw [listEq_eq (valEq_eq 8) _ _ k2] at hg
    exact ⟨e, sz, fz, ro, hd, (h.get _ _ hg).2⟩
  · obtain ⟨e, sz, fz, ro, hd, hg⟩ := isCells_eq k3
    generalize cellsOf H3 4 = cs at k4 hg
    unfold bigOk at k4
    simp only [Bool.and_eq_true, List.all_eq_true] at k4
    obtain ⟨⟨l1, l2⟩, l3⟩ := k4
    have l0 : cs.length = 257 := Nat.eq_of_beq_eq_true l1
    refine ⟨⟨ρ, ρ 3, cs.map (renV ρ 8), e, sz, fz, ro, hd, (h.get _ _ hg).2, by rw [List.length_map]; exact l0, fun c hc => ?_, ?_, fun c b hcb => ?_⟩⟩
    · have := valEq_eq 8 _ _ (l2 c (List.mem_range.2 hc))
      rw [List.getElem?_map, getD_some (d := .nilIface) (by omega), this]
      unfold repV
      cases repIx c <;> rfl
    · rw [List.getElem?_map, getD_some (d := .nilIface) (by omega), valEq_eq 8 _ _ l3]
      rfl
    · unfold repIx at hcb
      have t1 := two 10 39 k6
      have t2 := two 16 43 k8
      have t3 := two 13 58 k7
      have t4 := two 7 63 k5
      clear k1 k2 k3 k5 k6 k7 k8 h two hg l1 l2 l3
      split at hcb
      · rename_i hc; cases hcb; rw [hc]; exact t1
      split at hcb
      · rename_i hc; cases hcb; rw [hc]; exact t2
      split at hcb
      · rename_i hc; cases hcb; rw [hc]; exact t3
      split at hcb
      · rename_i hc; cases hcb; rw [hc]; exact t4
      · cases hcb

/-! ### The calls -/
theorem made_fr {n0 n1 : Nat} {ρ : Nat → Nat} {hp hp' : Tr AObj} {nx : Nat} (hle : n0 ≤ n1) (hlt : ∀ i, i < n0 → ρ i < nx) (g2 : ∀ j, (∀ i, i < n1 → renN ρ n0 nx i ≠ j) → hp'.get j = hp.get j) (hf : Fr hp nx) : Fr hp' (nx + (n1 - n0)) := by
  intro j o ho
  by_cases h : ∃ i, i < n1 ∧ renN ρ n0 nx i = j
  · obtain ⟨i, hi, rfl⟩ := h
    unfold renN
    split
    · rename_i q; have := hlt i q; omega
    · omega
  · rw [g2 j fun i hi e => h ⟨i, hi, e⟩] at ho
    have := hf j o ho
    omega

theorem made_holds {n0 n1 : Nat} {ρ : Nat → Nat} {h1 hp' : Tr AObj} {nx : Nat} {A : Nat → Prop} (hle : n0 ≤ n1) (hA : ∀ j, A j → j < nx) (inj : ∀ i j, i < n0 → j < n0 → ρ i = ρ j → i = j) (hlt : ∀ i, i < n0 → ρ i < nx) (hoff : ∀ i, i < n0 → ¬ A (ρ i)) (hn : ∀ i o, h1.get i = some o → i < n1)
    (g1 : ∀ i, i < n1 → hp'.get (renN ρ n0 nx i) = (h1.get i).map (renO (renN ρ n0 nx))) : Holds h1 n1 (renN ρ n0 nx) hp' (nx + (n1 - n0)) A := by
  have r0 : ∀ i, i < n0 → renN ρ n0 nx i = ρ i := fun i hi => by unfold renN; rw [if_pos hi]
  have r1 : ∀ i, ¬ i < n0 → renN ρ n0 nx i = nx + (i - n0) := fun i hi => by unfold renN; rw [if_neg hi]
  refine ⟨fun i j hi hj e => ?_, fun i hi => ?_, fun i hi ha => ?_, fun i o ho => ?_⟩
  · by_cases a : i < n0
    · by_cases b : j < n0
      · rw [r0 i a, r0 j b] at e; exact inj i j a b e
      · rw [r0 i a, r1 j b] at e; have := hlt i a; omega
    · by_cases b : j < n0
      · rw [r1 i a, r0 j b] at e; have := hlt j b; omega
      · rw [r1 i a, r1 j b] at e; omega
  · by_cases a : i < n0
    · rw [r0 i a]; have := hlt i a; omega
    · rw [r1 i a]; omega
  · by_cases a : i < n0
    · rw [r0 i a] at ha; exact hoff i a ha
    · rw [r1 i a] at ha; have := hA _ ha; omega
  · have hi := hn i o ho
    exact ⟨hi, by rw [g1 i hi, ho]; rfl⟩

theorem allT_lt {n : Nat} {l : List Value} {h : Tr AObj} {n1 : Nat} {h1 : Tr AObj} {v : Value} (c : okRun n l h n1 h1 v = true) : n ≤ n1 ∧ (∀ i o, h.get i = some o → i < n) := by
  unfold okRun at c
  simp only [Bool.and_eq_true, Nat.ble_eq] at c
  refine ⟨c.2, fun i o ho => ?_⟩
  have := allT_get h _ c.1.1.1.2 i o ho
  simp only [Bool.and_eq_true, Nat.blt_eq] at this
  exact this.1

theorem runB7 : CSound Tryz.prog 0 (runB fastT 0 100000 xf7 60) := runB_sound (P := Tryz.prog) (G := 0) (fuel := 100000) mixed7 named7 xf7_sound 60

/-- The replacer is made: nothing else changes. -/
theorem escaped_c {hp : Tr AObj} {nx : Nat} (A : Nat → Prop) (hA : ∀ j, A j → j < nx) (hf : Fr hp nx) :
    ACall Tryz.prog 0 17 [] hp nx (fun v hp' nx' => ∃ r, v = .pointer (some ⟨r, 0, none⟩) ∧ nx ≤ nx' ∧ Fr hp' nx' ∧ Rep hp' nx' r A ∧ ∀ j, j < nx → hp'.get j = hp.get j) := by
  have k := run17_ok
  simp only [Bool.and_eq_true] at k
  obtain ⟨⟨⟨k1, k2⟩, k3⟩, k4⟩ := k
  have hr := isOne_eq k1
  have en := sameN_eq k2
  have ev := valEq_eq 8 _ _ k3
  rw [en] at hr
  rw [ev] at hr k4
  have c2 := runDo_ok
  simp only [Bool.and_eq_true] at c2
  refine (acall_ren (ρ := id) (hp := hp) (nx := nx) runB7 hr k4 (fun i j h => absurd h (Nat.not_lt_zero i)) (fun i h => absurd h (Nat.not_lt_zero i)) (fun i o h => by rw [Tr.get_nil] at h; cases h)).mono fun v hp' nx' ⟨e1, e2, g1, g2⟩ => ?_
  have hh := made_holds (A := A) (n0 := 0) (n1 := 3) (h1 := H2) (Nat.zero_le 3) hA (fun i j h => absurd h (Nat.not_lt_zero i)) (fun i h => absurd h (Nat.not_lt_zero i)) (fun i h => absurd h (Nat.not_lt_zero i)) (allT_lt c2.2).2 g1
  subst e2
  refine ⟨renN id 0 nx 2, e1, Nat.le_add_right _ _, made_fr (n0 := 0) (n1 := 3) (Nat.zero_le 3) (fun i h => absurd h (Nat.not_lt_zero i)) g2 hf, ⟨_, rfl, .inl hh⟩, fun j hj => g2 j fun i hi e => ?_⟩
  unfold renN at e
  rw [if_neg (Nat.not_lt_zero i)] at e
  omega

/-- 'once.Do' over it: then it is built. -/
theorem once_c {hp : Tr AObj} {nx r : Nat} {A : Nat → Prop} (h : Rep hp nx r A) (hA : ∀ j, A j → j < nx) (hf : Fr hp nx) :
    ACall Tryz.prog 0 42 [.pointer (some ⟨r, 0, none⟩), .func (.func 43) #[.pointer (some ⟨r, 0, none⟩)] #[]] hp nx (fun _ hp' nx' => nx ≤ nx' ∧ Fr hp' nx' ∧ (∃ ρ, ρ 2 = r ∧ Holds H3 17 ρ hp' nx' A) ∧ ∀ j, A j → hp'.get j = hp.get j) := by
  obtain ⟨ρ, rfl, h⟩ := h
  have c3 := runDo2_ok
  simp only [Bool.and_eq_true] at c3
  obtain ⟨⟨⟨b1, b2⟩, b3⟩, b4⟩ := c3
  rcases h with h | h
  · have c2 := runDo_ok
    simp only [Bool.and_eq_true] at c2
    obtain ⟨⟨a1, a2⟩, a3⟩ := c2
    have hr := isOne_eq a1
    have en := sameN_eq a2
    rw [en] at hr
    refine (acall_ren (ρ := ρ) (hp := hp) (nx := nx) runB7 hr a3 h.inj h.lt (fun i o ho => (h.get i o ho).2)).mono fun v hp' nx' ⟨e1, e2, g1, g2⟩ => ?_
    have hh := made_holds (A := A) (n0 := 3) (n1 := 17) (h1 := H3) (by decide) hA h.inj h.lt h.off (allT_lt b3).2 g1
    subst e2
    refine ⟨Nat.le_add_right _ _, made_fr (n0 := 3) (n1 := 17) (by decide) h.lt g2 hf, ⟨renN ρ 3 nx, rfl, hh⟩, fun j hj => g2 j fun i hi e => hh.off i hi (by rw [e]; exact hj)⟩
  · have hr := isOne_eq b1
    have en := sameN_eq b2
    rw [en, trEq_eq objEq_eq _ _ b4] at hr
    refine (acall_ren (ρ := ρ) (hp := hp) (nx := nx) runB7 hr b3 h.inj h.lt (fun i o ho => (h.get i o ho).2)).mono fun v hp' nx' ⟨e1, e2, g1, g2⟩ => ?_
    have hh := made_holds (A := A) (n0 := 17) (n1 := 17) (h1 := H3) (Nat.le_refl 17) hA h.inj h.lt h.off (allT_lt b3).2 g1
    rw [e2]
    refine ⟨Nat.le_add_right _ _, made_fr (n0 := 17) (n1 := 17) (Nat.le_refl 17) h.lt g2 hf, ⟨renN ρ 17 nx, rfl, hh⟩, fun j hj => g2 j fun i hi e => hh.off i hi (by rw [e]; exact hj)⟩
end Go.Proofs.YtkjkoejnicbieaaGreat.AM

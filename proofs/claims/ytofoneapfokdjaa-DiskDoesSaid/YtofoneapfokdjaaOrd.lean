/- A region that draws its order, walked once in an order of one's own choice: what yields the same value in every world that extends the one at hand may be taken first. No program in sight. -/
import Derived.Orders
import Derived.Below
import Derived.Tactics
import Derived.Tactics2
import Derived.KernelRfl
import Derived.WalkKit
namespace Go.Proofs.Ytofoneapfokdjaa
set_option linter.unusedSimpArgs false
set_option linter.unusedVariables false
open Go.RowKit

/-- What a result says, if it is the value v in a world that extends w. -/
def KUpon (P : Program) (R : World → World → Prop) (w : World) (v : Value) : Result Next → Prop
  | .ok (.value u) w' => u = v ∧ R w w'
  | .ok .skip w' => v = undef ∧ R w w'
  | .ok (.enter f args) w' => Calls P f args w' fun e w'' => e = .returned v ∧ R w w''
  | _ => False
def KGoal (P : Program) (ops : Array Oper) (R : World → World → Prop) (w1 : World) (o : Oper) (v : Value) (a : Act) : Prop :=
  if Region.wanted o (yielded ops a.tmps) = true then KUpon P R w1 v ((execOp a.eval o).run P w1) else v = undef
def YieldsK (P : Program) (ops : Array Oper) (R : World → World → Prop) (w : World) (o : Oper) (v : Value) (a : Act) : Prop :=
  ∀ w1, R w w1 → KGoal P ops R w1 o v a
structure Grow (R : World → World → Prop) : Prop where
  refl : ∀ w, R w w
  trans : ∀ a b c, R a b → R b c → R a c

section
variable {P : Program} {ops : Array Oper} {Q : Exit → Act → World → Prop} {md : Region.Mode} {R : World → World → Prop}

theorem YieldsK.mono (G : Grow R) {w w1 : World} {o : Oper} {v : Value} {a : Act} (h : YieldsK P ops R w o v a) (hw : R w w1) : YieldsK P ops R w1 o v a :=
  fun w2 h2 => h w2 (G.trans _ _ _ hw h2)
theorem YieldsK.of_same {w : World} {o : Oper} {v : Value} {a a' : Act} (hy : YieldsK P ops R w o v a) (he : execOp a'.eval o = execOp a.eval o)
    (hw : Region.wanted o (yielded ops a'.tmps) = Region.wanted o (yielded ops a.tmps)) : YieldsK P ops R w o v a' := by
  intro w1 h1
  have := hy w1 h1
  unfold KGoal at *
  rw [he, hw]
  exact this
theorem wpOp_of_K {i : Nat} {o : Oper} {v : Value} {a : Act} {w1 : World} (hi : ops[i]? = some o) (hy : KGoal P ops R w1 o v a) (G : Grow R)
    {K : Act → World → Prop} (h : ∀ w', R w1 w' → K (a.put o.dst v) w') : wpOp P ops Q i K a w1 := by
  unfold Go.wpOp
  simp only [hi]
  unfold KGoal at hy
  split
  · rename_i hw
    rw [if_pos hw] at hy
    refine .inl ?_
    unfold Oper.wp
    generalize (execOp a.eval o).run P w1 = r at *
    cases r with
    | ok n w' =>
      cases n <;> simp only [KUpon] at hy <;> simp only [Oper.upon]
      case value u => obtain ⟨rfl, hR⟩ := hy; exact h _ hR
      case skip => obtain ⟨rfl, hR⟩ := hy; exact h _ hR
      case enter f args => exact hy.mono fun e w'' ⟨he, hR⟩ => by subst he; exact h _ hR
    | halt x w' => simp only [KUpon] at hy
  · rename_i hw
    rw [if_neg hw] at hy
    subst hy
    exact h _ (G.refl _)

/-- Whatever order is picked from here on, in whatever world that extends the one at hand. -/
def wpAnyK (P : Program) (md : Region.Mode) (ops : Array Oper) (Q : Exit → Act → World → Prop) (R : World → World → Prop) (T : List Nat) : Nat → Array Bool → Act → World → Prop
  | 0, listed, a, w => Region.ready md ops listed = [] ∧ ∀ w1, R w w1 → Q .normal a w1
  | fuel + 1, listed, a, w => ∀ w1, R w w1 →
    (Region.ready md ops listed = [] → Q .normal a w1) ∧
    ∀ i ∈ Region.ready md ops listed, wpOp P ops Q i (fun a' w' => (i ∉ T → R w1 w') ∧ wpAnyK P md ops Q R T fuel (listed.setIfInBounds i true) a' w') a w1

theorem wpAnyK_mono (G : Grow R) {T : List Nat} : ∀ {fuel : Nat} {listed : Array Bool} {a : Act} {w w1 : World}, wpAnyK P md ops Q R T fuel listed a w → R w w1 → wpAnyK P md ops Q R T fuel listed a w1
  | 0, _, _, _, _, h, hw => ⟨h.1, fun w2 h2 => h.2 w2 (G.trans _ _ _ hw h2)⟩
  | _ + 1, _, _, _, _, h, hw => fun w2 h2 => h w2 (G.trans _ _ _ hw h2)
theorem wpAny_of_K (G : Grow R) {T : List Nat} : ∀ (fuel : Nat) (listed : Array Bool) (a : Act) (w : World), wpAnyK P md ops Q R T fuel listed a w → wpAny P md ops Q fuel listed a w
  | 0, _, _, w, h => ⟨h.1, h.2 w (G.refl w)⟩
  | fuel + 1, _, _, w, h => ⟨(h w (G.refl w)).1, fun i hi => wpOp_mono (fun a' w' h' => wpAny_of_K G fuel _ a' w' h'.2) ((h w (G.refl w)).2 i hi)⟩

theorem wpOp_putK {j : Nat} {oi oj : Oper} {v : Value} (hj : ops[j]? = some oj) (hap : oi.apart ops oj = true)
    (hsi : ∀ cs b, oi.op ≠ .select cs b) (hsj : ∀ cs b, oj.op ≠ .select cs b)
    (hQ : ∀ c a w, Q (.panic c) (a.put oi.dst v) w → Q (.panic c) a w) {K : Act → World → Prop} {a : Act} {w : World}
    (h : wpOp P ops Q j K (a.put oi.dst v) w) :
    wpOp P ops Q j (fun a' w' => (∀ R w0, YieldsK P ops R w0 oi v a → YieldsK P ops R w0 oi v a') ∧ K (a'.put oi.dst v) w') a w := by
  obtain ⟨h1, h2, h3⟩ := Oper.apart_spec hap
  have keep : ∀ (a : Act) u R w0, YieldsK P ops R w0 oi v a → YieldsK P ops R w0 oi v (a.put oj.dst u) := fun a u R w0 hy =>
    hy.of_same (execOp_put oi hsi a oj.dst u h3) (wanted_put oi a oj.dst u h3)
  have keepD : ∀ d R w0, YieldsK P ops R w0 oi v a → YieldsK P ops R w0 oi v { a with defers := d :: a.defers } := fun d R w0 hy => hy.of_same rfl rfl
  unfold wpOp at *
  simp only [hj] at *
  rw [wanted_put oj a oi.dst v h1] at h
  split
  · rename_i hw
    simp only [hw, if_true] at h
    rcases h with h | ⟨hasks, hlets⟩
    case inr => exact .inr ⟨by unfold Oper.asks at *; rw [execOp_put oj hsj a oi.dst v h1] at hasks; exact hasks, hlets⟩
    refine .inl ?_
    unfold Oper.wp at *
    rw [execOp_put oj hsj a oi.dst v h1] at h
    generalize (execOp a.eval oj).run P w = r at *
    cases r with
    | ok n w' =>
      cases n <;> simp only [Oper.upon] at h ⊢
      case value u => exact ⟨keep a u, by rw [← Act.put_comm a v u h2]; exact h⟩
      case skip => exact ⟨keep a _, by rw [← Act.put_comm a v undef h2]; exact h⟩
      case defer d =>
        refine ⟨fun R w0 hy => keep _ _ _ _ (keepD d R w0 hy), ?_⟩
        rw [← Act.put_comm _ v undef h2, ← Act.put_defers]
        exact h
      case enter f args =>
        refine Calls.mono h fun e w'' he => ?_
        cases e with
        | returned u => exact ⟨keep a u, by rw [← Act.put_comm a v u h2]; exact he⟩
        | panicked c => exact hQ _ _ _ he
        | outgrown => exact he
      case row row args => exact Rows.mono h fun u w'' he => ⟨keep a u, by rw [← Act.put_comm a v u h2]; exact he⟩
    | halt x w' =>
      cases x <;> simp only [Oper.upon] at h ⊢
      case panic u => exact hQ _ _ _ h
  · rename_i hw
    simp only [hw] at h
    exact ⟨keep a _, by rw [← Act.put_comm a v undef h2]; exact h⟩

theorem wpAnyK_first (G : Grow R) {T : List Nat} {i : Nat} {oi : Oper} {v : Value} (hi : ops[i]? = some oi) (hsel : ∀ (j : Nat) (o : Oper) cs b, ops[j]? = some o → o.op ≠ .select cs b)
    (hQ : ∀ c a w, Q (.panic c) (a.put oi.dst v) w → Q (.panic c) a w) :
    ∀ (fuel : Nat) (listed : Array Bool) (a : Act) (w : World),
      (∀ j oj, ops[j]? = some oj → j ≠ i → listed.getD j true = false → (∀ e ∈ oj.after, Region.binds md e = true → e.on ≠ i) → oi.apart ops oj = true) →
      (∀ j oj, j ∈ T → ops[j]? = some oj → listed.getD j true = false → ∃ e ∈ oj.after, Region.binds md e = true ∧ e.on = i) →
      i ∈ Region.ready md ops listed → YieldsK P ops R w oi v a →
      wpAnyK P md ops Q R T fuel (listed.setIfInBounds i true) (a.put oi.dst v) w → wpAnyK P md ops Q R T (fuel + 1) listed a w := by
  intro fuel
  induction fuel with
  | zero =>
    intro listed a w _ _ hr hy H w1 hw1
    refine ⟨fun h => (by rw [h] at hr; cases hr), fun j hj => ?_⟩
    by_cases hji : j = i
    · subst hji; exact wpOp_of_K hi (hy w1 hw1) G fun w' hR => ⟨fun _ => hR, wpAnyK_mono G H (G.trans _ _ _ hw1 hR)⟩
    · have := ready_mono hj hji
      rw [H.1] at this
      cases this
  | succ fuel ih =>
    intro listed a w hfree hwait hr hy H w1 hw1
    refine ⟨fun h => (by rw [h] at hr; cases hr), fun j hj => ?_⟩
    by_cases hji : j = i
    · subst hji; exact wpOp_of_K hi (hy w1 hw1) G fun w' hR => ⟨fun _ => hR, wpAnyK_mono G H (G.trans _ _ _ hw1 hR)⟩
    · have h1 := (H w1 hw1).2 j (ready_mono hj hji)
      obtain ⟨hjun, oj, hoj, hall⟩ := mem_ready.1 hj
      have hnot : ∀ e ∈ oj.after, Region.binds md e = true → e.on ≠ i := fun e he hb heq => by
        have h1 := hall e he hb
        have h0 := (mem_ready.1 hr).1
        rw [heq] at h1
        rcases Nat.lt_or_ge i listed.size with h' | h'
        · simp [h'] at h0 h1; rw [h0] at h1; cases h1
        · simp [Array.getElem?_eq_none h'] at h1
      have h2 := wpOp_putK hoj (hfree j oj hoj hji hjun hnot) (fun cs b => hsel i oi cs b hi) (fun cs b => hsel j oj cs b hoj) hQ h1
      have hfree' : ∀ k ok, ops[k]? = some ok → k ≠ i → (listed.setIfInBounds j true).getD k true = false →
          (∀ e ∈ ok.after, Region.binds md e = true → e.on ≠ i) → oi.apart ops ok = true := fun k ok hk hki hun hno => by
        refine hfree k ok hk hki ?_ hno
        by_cases hjk : j = k
        · subst hjk; exact hjun
        · rw [getD_set_ne true hjk] at hun; exact hun
      have hjT : j ∉ T := fun hT => by
        obtain ⟨e, he, hb, hon⟩ := hwait j oj hT hoj hjun
        exact hnot e he hb hon
      have hwait' : ∀ k ok, k ∈ T → ops[k]? = some ok → (listed.setIfInBounds j true).getD k true = false → ∃ e ∈ ok.after, Region.binds md e = true ∧ e.on = i := fun k ok hk hok hun => by
        refine hwait k ok hk hok ?_
        by_cases hjk : j = k
        · subst hjk; exact hjun
        · rw [getD_set_ne true hjk] at hun; exact hun
      refine wpOp_mono (fun a' w' h3 => ⟨h3.2.1, ih (listed.setIfInBounds j true) a' w' hfree' hwait' (ready_mono hr (Ne.symm hji)) ((h3.1 R w hy).mono G (G.trans _ _ _ hw1 (h3.2.1 hjT))) ?_⟩) h2
      rw [Array.setIfInBounds_comm _ _ hji]
      exact h3.2.2

/-- Every one of T that has not come up waits for i. -/
def Region.waitB (md : Region.Mode) (ops : Array Oper) (T : List Nat) (listed : Array Bool) (i : Nat) : Bool :=
  T.all fun j => listed.getD j true || match ops[j]? with
    | some oj => oj.after.any fun e => Region.binds md e && e.on == i
    | none => true
theorem Region.waitB_spec {ops : Array Oper} {md : Region.Mode} {T : List Nat} {listed : Array Bool} {i : Nat} (h : Region.waitB md ops T listed i = true) (j : Nat) (oj : Oper) (hj : j ∈ T) (ho : ops[j]? = some oj) (hun : listed.getD j true = false) :
    ∃ e ∈ oj.after, Region.binds md e = true ∧ e.on = i := by
  have h1 := List.all_eq_true.1 h j hj
  simp only [ho, hun, Bool.false_or] at h1
  obtain ⟨e, he, hb⟩ := Array.any_eq_true'.1 h1
  simp only [Bool.and_eq_true, beq_iff_eq] at hb
  exact ⟨e, he, hb.1, hb.2⟩
/-- The order of one's choice: (i, true): i is taken first; (i, false): i is the only one that may come up. T: those whose effect is their own. -/
def Region.ordB (md : Region.Mode) (ops : Array Oper) (T : List Nat) : List (Nat × Bool) → Array Bool → Bool
  | [], listed => (Region.ready md ops listed).isEmpty
  | (i, true) :: l, listed => (Region.ready md ops listed).contains i && Region.free md ops listed i && Region.waitB md ops T listed i && Region.ordB md ops T l (listed.setIfInBounds i true)
  | (i, false) :: l, listed => decide (Region.ready md ops listed = [i]) && Region.ordB md ops T l (listed.setIfInBounds i true)
def wpOrd (P : Program) (ops : List Oper) (Q : Exit → Act → World → Prop) (R : World → World → Prop) (T : List Nat) : List (Nat × Bool) → Act → World → Prop
  | [], a, w => ∀ w1, R w w1 → Q .normal a w1
  | (i, true) :: l, a, w => ∃ o v, ops[i]? = some o ∧ YieldsK P ops.toArray R w o v a ∧ wpOrd P ops Q R T l (a.put o.dst v) w
  | (i, false) :: l, a, w => ∀ w1, R w w1 → wpOp P ops.toArray Q i (fun a' w' => (i ∉ T → R w1 w') ∧ wpOrd P ops Q R T l a' w') a w1
/-- A panic of the region ends it whatever the frame. -/
def Steady (Q : Exit → Act → World → Prop) : Prop := ∀ c (a : Act) d v w, Q (.panic c) (a.put d v) w → Q (.panic c) a w
theorem wpAnyK_ord (G : Grow R) {T : List Nat} {ops : List Oper} (hs : Region.noSelect ops.toArray = true) (hQ : Steady Q) : ∀ (l : List (Nat × Bool)) (listed : Array Bool) (a : Act) (w : World),
    Region.ordB md ops.toArray T l listed = true → wpOrd P ops Q R T l a w → wpAnyK P md ops.toArray Q R T l.length listed a w
  | [], listed, a, w, hB, h => ⟨by simpa [Region.ordB] using hB, h⟩
  | (i, true) :: l, listed, a, w, hB, h => by
    simp only [Region.ordB, Bool.and_eq_true] at hB
    obtain ⟨o, v, ho, hy, hK⟩ := h
    have ho' : ops.toArray[i]? = some o := by simpa using ho
    exact wpAnyK_first G ho' (Region.noSelect_spec hs) (fun c a w => hQ c a o.dst v w) l.length listed a w (Region.free_spec ho' hB.1.1.2) (fun j oj hj hoj hun => Region.waitB_spec hB.1.2 j oj hj hoj hun) (by simpa using hB.1.1.1) hy (wpAnyK_ord G hs hQ l _ _ _ hB.2 hK)
  | (i, false) :: l, listed, a, w, hB, h => by
    simp only [Region.ordB, Bool.and_eq_true, decide_eq_true_eq] at hB
    intro w1 hw1
    refine ⟨fun h0 => (by rw [hB.1] at h0; cases h0), fun j hj => ?_⟩
    rw [hB.1] at hj
    have : j = i := by simpa using hj
    subst this
    exact wpOp_mono (fun a' w' h' => ⟨h'.1, wpAnyK_ord G hs hQ l _ _ _ hB.2 h'.2⟩) (h w1 hw1)

theorem wp_region_ord (G : Grow R) (ord : List (Nat × Bool)) (T : List Nat) {id : Nat} {ops : List Oper} {a : Act} {w : World} (hm : P.follows .mixedOrders = true) (hs : Region.noSelect ops.toArray = true)
    (hl : ord.length = ops.length) (hB : Region.ordB .any ops.toArray T ord (Array.replicate ops.length false) = true) (hQ : Steady Q)
    (h : wpOrd P ops Q R T ord a w.drew) : (Code.region id ops.toArray true).wp P Q a w := by
  refine wp_region_any hm (wpAny_of_K G (T := T) _ _ _ _ ?_)
  have := wpAnyK_ord G hs hQ ord _ a _ hB h
  rw [hl] at this
  simpa using this

theorem wpOrd_take {ops : List Oper} {T : List Nat} {i : Nat} {l : List (Nat × Bool)} {a : Act} {w : World} {o : Oper} (v : Value) (hi : ops[i]? = some o)
    (hy : ∀ w1, R w w1 → KGoal P ops.toArray R w1 o v a) (h : wpOrd P ops Q R T l (a.put o.dst v) w) : wpOrd P ops Q R T ((i, true) :: l) a w := ⟨o, v, hi, hy, h⟩
theorem wpOrd_do {ops : List Oper} {T : List Nat} {i : Nat} {l : List (Nat × Bool)} {a : Act} {w : World} {o : Oper} (hi : ops[i]? = some o)
    (h : ∀ w1, R w w1 → ∀ K : Act → World → Prop, (∀ a' w', R w1 w' → wpOrd P ops Q R T l a' w' → K a' w') →
      if Region.wanted o (yielded ops.toArray a.tmps) = true then o.wp P a w1 K Q else K (a.put o.dst undef) w1) : wpOrd P ops Q R T ((i, false) :: l) a w := by
  intro w1 hw1
  have h' := h w1 hw1 (fun a' w' => R w1 w' ∧ wpOrd P ops Q R T l a' w') (fun a' w' hR hK => ⟨hR, hK⟩)
  have hi' : ops.toArray[i]? = some o := by simpa using hi
  refine wpOp_mono (fun a' w' (hh : R w1 w' ∧ wpOrd P ops Q R T l a' w') => ⟨fun _ => hh.1, hh.2⟩) ?_
  unfold wpOp
  simp only [hi']
  split
  · rename_i hw; rw [if_pos hw] at h'; exact .inl h'
  · rename_i hw; rw [if_neg hw] at h'; exact h'
/-- One of T: its effect is its own. -/
theorem wpOrd_last {ops : List Oper} {T : List Nat} {i : Nat} {l : List (Nat × Bool)} {a : Act} {w : World} {o : Oper} (hi : ops[i]? = some o) (hT : i ∈ T)
    (h : ∀ w1, R w w1 → ∀ K : Act → World → Prop, (∀ a' w', wpOrd P ops Q R T l a' w' → K a' w') →
      if Region.wanted o (yielded ops.toArray a.tmps) = true then o.wp P a w1 K Q else K (a.put o.dst undef) w1) : wpOrd P ops Q R T ((i, false) :: l) a w := by
  intro w1 hw1
  have h' := h w1 hw1 (fun a' w' => wpOrd P ops Q R T l a' w') (fun a' w' hK => hK)
  have hi' : ops.toArray[i]? = some o := by simpa using hi
  refine wpOp_mono (fun a' w' (hh : wpOrd P ops Q R T l a' w') => ⟨fun hn => absurd hT hn, hh⟩) ?_
  unfold wpOp
  simp only [hi']
  split
  · rename_i hw; rw [if_pos hw] at h'; exact .inl h'
  · rename_i hw; rw [if_neg hw] at h'; exact h'
theorem wpOrd_done {ops : List Oper} {T : List Nat} {a : Act} {w : World} (h : ∀ w1, R w w1 → Q .normal a w1) : wpOrd P ops Q R T [] a w := h
end
/-- Worlds with new blocks alone. -/
def Newer (w w' : World) : Prop := Below w.heap.size w w'
theorem Newer.grow : Grow Newer := ⟨fun _ => Below.refl _ _, fun _ _ _ h h' => Below.trans h (h'.mono h.size)⟩
theorem Newer.refl (w : World) : Newer w w := Below.refl _ _
theorem Newer.trans {a b c : World} (h : Newer a b) (h' : Newer b c) : Newer a c := Newer.grow.trans _ _ _ h h'
theorem Newer.undrew {w v : World} (h : Newer w.drew v) : Newer w v := ⟨h.os, h.tape, h.output, h.size, h.block⟩
theorem Newer.drew {w v : World} (h : Newer w v) : Newer w v.drew := ⟨h.os, h.tape, h.output, h.size, h.block⟩
theorem Newer.alloc {w v : World} (h : Newer w v) (o : Obj) : Newer w (v.alloc o) := Below.alloc h h.size o
theorem Newer.below {w v : World} (h : Newer w v) {B : Nat} (hB : B ≤ w.heap.size) : Below B w v := Below.mono h hB
attribute [go_sem] KUpon KGoal
end Go.Proofs.Ytofoneapfokdjaa

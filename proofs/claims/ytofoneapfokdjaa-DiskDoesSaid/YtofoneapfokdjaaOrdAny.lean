/- A drawn region: what yields the same in every later world first, then whatever order is left. -/
import Derived.Test.YtofoneapfokdjaaOrd
import Derived.Test.YtofoneapfokdjaaSep
namespace Go.Proofs.Ytofoneapfokdjaa
set_option linter.unusedSimpArgs false
set_option linter.unusedVariables false
open Go.RowKit

section
variable {P : Program} {ops : Array Oper} {Q : Exit → Act → World → Prop} {md : Region.Mode} {R E : World → World → Prop}
/-- In every world that R extends, the operation yields v, and what it turns is E. -/
def YieldsE (P : Program) (ops : Array Oper) (R E : World → World → Prop) (w : World) (o : Oper) (v : Value) (a : Act) : Prop :=
  ∀ w1, R w w1 → KGoal P ops E w1 o v a
/-- What all others may turn: R; what those taken first may: E. -/
structure Grow2 (R E : World → World → Prop) : Prop where
  big : Grow R
  small : Grow E
  sub : ∀ a b, E a b → R a b
theorem YieldsE.mono (G : Grow2 R E) {w w1 : World} {o : Oper} {v : Value} {a : Act} (h : YieldsE P ops R E w o v a) (hw : R w w1) : YieldsE P ops R E w1 o v a :=
  fun w2 h2 => h w2 (G.big.trans _ _ _ hw h2)
theorem YieldsE.of_same {w : World} {o : Oper} {v : Value} {a a' : Act} (hy : YieldsE P ops R E w o v a) (he : execOp a'.eval o = execOp a.eval o)
    (hw : Region.wanted o (yielded ops a'.tmps) = Region.wanted o (yielded ops a.tmps)) : YieldsE P ops R E w o v a' := by
  intro w1 h1
  have := hy w1 h1
  unfold KGoal at *
  rw [he, hw]
  exact this
def wpAnyE (P : Program) (md : Region.Mode) (ops : Array Oper) (Q : Exit → Act → World → Prop) (R E : World → World → Prop) : Nat → Array Bool → Act → World → Prop
  | 0, listed, a, w => Region.ready md ops listed = [] ∧ ∀ w1, E w w1 → Q .normal a w1
  | fuel + 1, listed, a, w => ∀ w1, E w w1 →
    (Region.ready md ops listed = [] → Q .normal a w1) ∧
    ∀ i ∈ Region.ready md ops listed, wpOp P ops Q i (fun a' w' => R w1 w' ∧ wpAnyE P md ops Q R E fuel (listed.setIfInBounds i true) a' w') a w1
theorem wpAnyE_mono (G : Grow2 R E) : ∀ {fuel : Nat} {listed : Array Bool} {a : Act} {w w1 : World}, wpAnyE P md ops Q R E fuel listed a w → E w w1 → wpAnyE P md ops Q R E fuel listed a w1
  | 0, _, _, _, _, h, hw => ⟨h.1, fun w2 h2 => h.2 w2 (G.small.trans _ _ _ hw h2)⟩
  | _ + 1, _, _, _, _, h, hw => fun w2 h2 => h w2 (G.small.trans _ _ _ hw h2)
theorem wpAny_of_E (G : Grow2 R E) : ∀ (fuel : Nat) (listed : Array Bool) (a : Act) (w : World), wpAnyE P md ops Q R E fuel listed a w → wpAny P md ops Q fuel listed a w
  | 0, _, _, w, h => ⟨h.1, h.2 w (G.small.refl w)⟩
  | fuel + 1, _, _, w, h => ⟨(h w (G.small.refl w)).1, fun i hi => wpOp_mono (fun a' w' h' => wpAny_of_E G fuel _ a' w' h'.2) ((h w (G.small.refl w)).2 i hi)⟩
theorem wpOp_putE {j : Nat} {oi oj : Oper} {v : Value} (hj : ops[j]? = some oj) (hap : oi.apart ops oj = true)
    (hsi : ∀ cs b, oi.op ≠ .select cs b) (hsj : ∀ cs b, oj.op ≠ .select cs b)
    (hQ : ∀ c a w, Q (.panic c) (a.put oi.dst v) w → Q (.panic c) a w) {K : Act → World → Prop} {a : Act} {w : World}
    (h : wpOp P ops Q j K (a.put oi.dst v) w) :
    wpOp P ops Q j (fun a' w' => (∀ w0, YieldsE P ops R E w0 oi v a → YieldsE P ops R E w0 oi v a') ∧ K (a'.put oi.dst v) w') a w := by
  obtain ⟨h1, h2, h3⟩ := Oper.apart_spec hap
  have keep : ∀ (a : Act) u w0, YieldsE P ops R E w0 oi v a → YieldsE P ops R E w0 oi v (a.put oj.dst u) := fun a u w0 hy =>
    hy.of_same (execOp_put oi hsi a oj.dst u h3) (wanted_put oi a oj.dst u h3)
  have keepD : ∀ d w0, YieldsE P ops R E w0 oi v a → YieldsE P ops R E w0 oi v { a with defers := d :: a.defers } := fun d w0 hy => hy.of_same rfl rfl
  unfold wpOp at *
  simp only [hj] at *
  rw [wanted_put oj a oi.dst v h1] at h
  split
  · rename_i hw
    simp only [hw, if_true] at h
    rcases h with h | ⟨hasks, hlets⟩
    case inr => exact .inr ⟨by unfold Oper.asks at *; rw [execOp_put oj hsj a oi.dst v h1] at hasks; exact hasks, hlets⟩
    refine .inl ?_
    unfold Oper.wp at *
    rw [execOp_put oj hsj a oi.dst v h1] at h
    generalize (execOp a.eval oj).run P w = r at *
    cases r with
    | ok n w' =>
      cases n <;> simp only [Oper.upon] at h ⊢
      case value u => exact ⟨keep a u, by rw [← Act.put_comm a v u h2]; exact h⟩
      case skip => exact ⟨keep a _, by rw [← Act.put_comm a v undef h2]; exact h⟩
      case defer d =>
        refine ⟨fun w0 hy => keep _ _ _ (keepD d w0 hy), ?_⟩
        rw [← Act.put_comm _ v undef h2, ← Act.put_defers]
        exact h
      case enter f args =>
        refine Calls.mono h fun e w'' he => ?_
        cases e with
        | returned u => exact ⟨keep a u, by rw [← Act.put_comm a v u h2]; exact he⟩
        | panicked c => exact hQ _ _ _ he
        | outgrown => exact he
      case row row args => exact Rows.mono h fun u w'' he => ⟨keep a u, by rw [← Act.put_comm a v u h2]; exact he⟩
    | halt x w' =>
      cases x <;> simp only [Oper.upon] at h ⊢
      case panic u => exact hQ _ _ _ h
  · rename_i hw
    simp only [hw] at h
    exact ⟨keep a _, by rw [← Act.put_comm a v undef h2]; exact h⟩
theorem wpAnyE_first (G : Grow2 R E) {i : Nat} {oi : Oper} {v : Value} (hi : ops[i]? = some oi) (hsel : ∀ (j : Nat) (o : Oper) cs b, ops[j]? = some o → o.op ≠ .select cs b)
    (hQ : ∀ c a w, Q (.panic c) (a.put oi.dst v) w → Q (.panic c) a w) :
    ∀ (fuel : Nat) (listed : Array Bool) (a : Act) (w : World),
      (∀ j oj, ops[j]? = some oj → j ≠ i → listed.getD j true = false → (∀ e ∈ oj.after, Region.binds md e = true → e.on ≠ i) → oi.apart ops oj = true) →
      i ∈ Region.ready md ops listed → YieldsE P ops R E w oi v a →
      wpAnyE P md ops Q R E fuel (listed.setIfInBounds i true) (a.put oi.dst v) w → wpAnyE P md ops Q R E (fuel + 1) listed a w := by
  intro fuel
  induction fuel with
  | zero =>
    intro listed a w _ hr hy H w1 hw1
    refine ⟨fun h => (by rw [h] at hr; cases hr), fun j hj => ?_⟩
    by_cases hji : j = i
    · subst hji; exact wpOp_of_K hi (hy w1 (G.sub _ _ hw1)) G.small fun w' hR => ⟨G.sub _ _ hR, wpAnyE_mono G H (G.small.trans _ _ _ hw1 hR)⟩
    · have := ready_mono hj hji
      rw [H.1] at this
      cases this
  | succ fuel ih =>
    intro listed a w hfree hr hy H w1 hw1
    refine ⟨fun h => (by rw [h] at hr; cases hr), fun j hj => ?_⟩
    by_cases hji : j = i
    · subst hji; exact wpOp_of_K hi (hy w1 (G.sub _ _ hw1)) G.small fun w' hR => ⟨G.sub _ _ hR, wpAnyE_mono G H (G.small.trans _ _ _ hw1 hR)⟩
    · have h1 := (H w1 hw1).2 j (ready_mono hj hji)
      obtain ⟨hjun, oj, hoj, hall⟩ := mem_ready.1 hj
      have hnot : ∀ e ∈ oj.after, Region.binds md e = true → e.on ≠ i := fun e he hb heq => by
        have h1 := hall e he hb
        have h0 := (mem_ready.1 hr).1
        rw [heq] at h1
        rcases Nat.lt_or_ge i listed.size with h' | h'
        · simp [h'] at h0 h1; rw [h0] at h1; cases h1
        · simp [Array.getElem?_eq_none h'] at h1
      have h2 := wpOp_putE (R := R) (E := E) hoj (hfree j oj hoj hji hjun hnot) (fun cs b => hsel i oi cs b hi) (fun cs b => hsel j oj cs b hoj) hQ h1
      have hfree' : ∀ k ok, ops[k]? = some ok → k ≠ i → (listed.setIfInBounds j true).getD k true = false →
          (∀ e ∈ ok.after, Region.binds md e = true → e.on ≠ i) → oi.apart ops ok = true := fun k ok hk hki hun hno => by
        refine hfree k ok hk hki ?_ hno
        by_cases hjk : j = k
        · subst hjk; exact hjun
        · rw [getD_set_ne true hjk] at hun; exact hun
      refine wpOp_mono (fun a' w' h3 => ⟨h3.2.1, ih (listed.setIfInBounds j true) a' w' hfree' (ready_mono hr (Ne.symm hji)) ((h3.1 w hy).mono G (G.big.trans _ _ _ (G.sub _ _ hw1) h3.2.1)) ?_⟩) h2
      rw [Array.setIfInBounds_comm _ _ hji]
      exact h3.2.2
def wpTakes (P : Program) (md : Region.Mode) (ops : List Oper) (Q : Exit → Act → World → Prop) (R E : World → World → Prop) (fuel : Nat) : List Nat → Array Bool → Act → World → Prop
  | [], listed, a, w => wpAnyE P md ops.toArray Q R E fuel listed a w
  | i :: l, listed, a, w => ∃ o v, ops[i]? = some o ∧ YieldsE P ops.toArray R E w o v a ∧ wpTakes P md ops Q R E fuel l (listed.setIfInBounds i true) (a.put o.dst v) w
def Region.takesB (md : Region.Mode) (ops : Array Oper) : List Nat → Array Bool → Bool
  | [], _ => true
  | i :: l, listed => (Region.ready md ops listed).contains i && Region.free md ops listed i && Region.takesB md ops l (listed.setIfInBounds i true)
theorem wpAnyE_takes (G : Grow2 R E) {ops : List Oper} (hs : Region.noSelect ops.toArray = true) (hQ : Steady Q) (fuel : Nat) : ∀ (l : List Nat) (listed : Array Bool) (a : Act) (w : World),
    Region.takesB md ops.toArray l listed = true → wpTakes P md ops Q R E fuel l listed a w → wpAnyE P md ops.toArray Q R E (l.length + fuel) listed a w
  | [], listed, a, w, _, h => by simpa [wpTakes] using h
  | i :: l, listed, a, w, hB, h => by
    simp only [Region.takesB, Bool.and_eq_true] at hB
    obtain ⟨o, v, ho, hy, hK⟩ := h
    have ho' : ops.toArray[i]? = some o := by simpa using ho
    rw [show (i :: l).length + fuel = (l.length + fuel) + 1 by simp; omega]
    exact wpAnyE_first G ho' (Region.noSelect_spec hs) (fun c a w => hQ c a o.dst v w) (l.length + fuel) listed a w (Region.free_spec ho' hB.1.2) (by simpa using hB.1.1) hy (wpAnyE_takes G hs hQ fuel l _ _ _ hB.2 hK)
theorem wp_region_takes (G : Grow2 R E) (l : List Nat) (fuel : Nat) {id : Nat} {ops : List Oper} {a : Act} {w : World} (hm : P.follows .mixedOrders = true) (hs : Region.noSelect ops.toArray = true)
    (hl : l.length + fuel = ops.length) (hB : Region.takesB .any ops.toArray l (Array.replicate ops.length false) = true) (hQ : Steady Q)
    (h : wpTakes P .any ops Q R E fuel l (Array.replicate ops.length false) a w.drew) : (Code.region id ops.toArray true).wp P Q a w := by
  refine wp_region_any hm (wpAny_of_E G _ _ _ _ ?_)
  have := wpAnyE_takes G hs hQ fuel l _ a _ hB h
  rw [hl] at this
  simpa using this
theorem wpTakes_take {ops : List Oper} {fuel i : Nat} {l : List Nat} {listed : Array Bool} {a : Act} {w : World} {o : Oper} (v : Value) (hi : ops[i]? = some o)
    (hy : ∀ w1, R w w1 → KGoal P ops.toArray E w1 o v a) (h : wpTakes P md ops Q R E fuel l (listed.setIfInBounds i true) (a.put o.dst v) w) : wpTakes P md ops Q R E fuel (i :: l) listed a w := ⟨o, v, hi, hy, h⟩
theorem wpTakes_done {ops : List Oper} {fuel : Nat} {listed : Array Bool} {a : Act} {w : World} (h : wpAnyE P md ops.toArray Q R E fuel listed a w) : wpTakes P md ops Q R E fuel [] listed a w := h
/-- All that may come up. -/
theorem wpAnyE_fork {ops : List Oper} {fuel : Nat} {listed : Array Bool} {a : Act} {w : World} (l : List Nat) (hl : Region.ready md ops.toArray listed = l) (hne : l ≠ [])
    (h : ∀ i ∈ l, ∃ o, ops[i]? = some o ∧ ∀ w1, E w w1 → ∀ K : Act → World → Prop, (∀ a' w', R w1 w' → wpAnyE P md ops.toArray Q R E fuel (listed.setIfInBounds i true) a' w' → K a' w') →
      if Region.wanted o (yielded ops.toArray a.tmps) = true then o.wp P a w1 K Q else K (a.put o.dst undef) w1) : wpAnyE P md ops.toArray Q R E (fuel + 1) listed a w := by
  intro w1 hw1
  rw [hl]
  refine ⟨fun e => absurd e hne, fun i hi => ?_⟩
  obtain ⟨o, ho, h'⟩ := h i hi
  have h' := h' w1 hw1 (fun a' w' => R w1 w' ∧ wpAnyE P md ops.toArray Q R E fuel (listed.setIfInBounds i true) a' w') (fun a' w' hR hK => ⟨hR, hK⟩)
  have hi' : ops.toArray[i]? = some o := by simpa using ho
  unfold wpOp
  simp only [hi']
  split
  · rename_i hw; rw [if_pos hw] at h'; exact .inl h'
  · rename_i hw; rw [if_neg hw] at h'; exact h'
theorem wpAnyE_end {ops : List Oper} {listed : Array Bool} {a : Act} {w : World} (hl : Region.ready md ops.toArray listed = []) (h : ∀ w1, E w w1 → Q .normal a w1) : wpAnyE P md ops.toArray Q R E 0 listed a w := ⟨hl, h⟩
end

/-- Worlds that keep all below a block that there is. -/
def KeepB (B : Nat) (w w' : World) : Prop := B ≤ w.heap.size → Below B w w'
theorem KeepB.grow (B : Nat) : Grow2 (KeepB B) Newer :=
  ⟨⟨fun _ _ => Below.refl _ _, fun _ _ _ h h' hB => Below.trans (h hB) (h' (Nat.le_trans hB (h hB).size))⟩, Newer.grow, fun _ _ h hB => Below.mono h hB⟩
section
variable {S0 : Nat → Prop} {w0 w w' : World} {pre post : List Thing}
theorem Now.pushNone {L : List Thing} (h : Now S0 w0 w L) : Now S0 w0 w (Thing.none_ :: L) := h.push (Below.refl _ _) (S' := fun _ => False) (fun _ h => h) (fun _ h => h.elim)
/-- An empty row is built in a place. -/
theorem Now.built (h : Now S0 w0 w (pre ++ Thing.none_ :: post)) (t : TypeId) (size : Nat) : Now S0 w0 (w.alloc (.cells #[] t)) (pre ++ Thing.row t size (.slice (some ⟨w.heap.size, 0, none⟩) 0 0) 0 [] :: post) := by
  obtain ⟨S, _, _, h2⟩ := h.at_
  exact h2 _ [Thing.row t size (.slice (some ⟨w.heap.size, 0, none⟩) 0 0) 0 []] ⟨fun k => k = w.heap.size, ⟨fun k => k = w.heap.size, fun _ => False, ⟨World.ownsRow_lit (e := t) (base := 0) (size := size) w #[] 0 (Nat.zero_le _) (by simp [maxLen]) (by simp), fun k => by simp [Value.ownBlock, eq_comm]⟩, fun _ h => h, fun _ _ h => h, fun _ => ⟨.inl, fun h => h.elim id False.elim⟩⟩, (Fr.refl _ w).alloc _, fun k hk => .inr (Nat.le_of_eq hk.symm)⟩
theorem Sep.grownR {t : TypeId} {size n : Nat} {v : Value} {xs : List Value} (h : Sep w0 w (pre ++ Thing.row t size v n xs :: post)) (hg : w.grownBy w' v.ownBlock) : Below w0.heap.size w w' := by
  obtain ⟨S, h1, h2, _⟩ := h.at_
  exact (Fr.of_grown (S := S) hg (fun k e => (h1.2 k).2 e)).below h.size (fun k _ hk => (h2 k hk).resolve_left id)
end
end Go.Proofs.Ytofoneapfokdjaa

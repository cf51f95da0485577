/- What the laws of this seat lean on, part 5. -/
import Derived.Test.YtidacaihmjdmkaaGreatZK3
import Derived.Test.YtidacaihmjdmkaaGreatZK4
import Derived.Test.YtidacaihmjdmkaaGreatProg
import Derived.WalkKit
import Derived.Lib.Hide
import Derived.WalkLawsBesides
import Derived.WalkSpells
import Derived.Deep.RegionLaw
import Derived.Lib.SliceRun
import Derived.Laws.CopyOwn
import Derived.Laws.OwnMore
import Derived.Laws.IdiomCopy
import Derived.StillTailTactics
import Derived.Deep.QuietTactic
import Derived.BigQuiet
import Derived.Laws.ResultCell
import Derived.Laws.Rows
set_option linter.unusedSimpArgs false
set_option linter.unusedVariables false
set_option maxRecDepth 100000
namespace Go.Proofs.YtidacaihmjdmkaaGreat
open Go.RowKit
section
variable {P : Program} {ops : Array Oper} {Q : Exit → Act → World → Prop} {md : Region.Mode} {R E : World → World → Prop}
def YieldsE (P : Program) (ops : Array Oper) (R E : World → World → Prop) (p : Bool) (w : World) (o : Oper) (v : Value) (a : Act) : Prop :=
  ∀ w1,(p = true ∨ R w w1) → KGoal P ops E w1 o v a
structure Grow2 (R E : World → World → Prop) : Prop where
  big : Grow R
  small : Grow E
  sub : ∀ a b,E a b → R a b
theorem YieldsE.mono (G : Grow2 R E) {p : Bool} {w w1 : World} {o : Oper} {v : Value} {a : Act} (h : YieldsE P ops R E p w o v a) (hw : p = true ∨ R w w1) : YieldsE P ops R E p w1 o v a :=
  fun w2 h2 => h w2 (by
    rcases hw with hw | hw
    · exact .inl hw
    · exact h2.imp id fun h2 => G.big.trans _ _ _ hw h2)
theorem YieldsE.of_same {p : Bool} {w : World} {o : Oper} {v : Value} {a a' : Act} (hy : YieldsE P ops R E p w o v a) (he : execOp a'.eval o = execOp a.eval o)
    (hw : Region.wanted o (yielded ops a'.tmps) = Region.wanted o (yielded ops a.tmps)) : YieldsE P ops R E p w o v a' := by
  intro w1 h1
  have := hy w1 h1
  unfold KGoal at *
  rw [he,hw]
  exact this
def wpAnyE (P : Program) (md : Region.Mode) (ops : Array Oper) (Q : Exit → Act → World → Prop) (R E : World → World → Prop) (T : List Nat) : Nat → Array Bool → Act → World → Prop
  | 0,listed,a,w => Region.ready md ops listed = [] ∧ ∀ w1,E w w1 → Q .normal a w1
  | fuel + 1,listed,a,w => ∀ w1,E w w1 →
    (Region.ready md ops listed = [] → Q .normal a w1) ∧
    ∀ i ∈ Region.ready md ops listed,wpOp P ops Q i (fun a' w' => (i ∉ T → R w1 w') ∧ wpAnyE P md ops Q R E T fuel (listed.setIfInBounds i true) a' w') a w1
theorem wpAnyE_mono (G : Grow2 R E) {T : List Nat} : ∀ {fuel : Nat} {listed : Array Bool} {a : Act} {w w1 : World},wpAnyE P md ops Q R E T fuel listed a w → E w w1 → wpAnyE P md ops Q R E T fuel listed a w1
  | 0,_,_,_,_,h,hw => ⟨h.1,fun w2 h2 => h.2 w2 (G.small.trans _ _ _ hw h2)⟩
  | _ + 1,_,_,_,_,h,hw => fun w2 h2 => h w2 (G.small.trans _ _ _ hw h2)
theorem wpAny_of_E (G : Grow2 R E) {T : List Nat} : ∀ (fuel : Nat) (listed : Array Bool) (a : Act) (w : World),wpAnyE P md ops Q R E T fuel listed a w → wpAny P md ops Q fuel listed a w
  | 0,_,_,w,h => ⟨h.1,h.2 w (G.small.refl w)⟩
  | fuel + 1,_,_,w,h => ⟨(h w (G.small.refl w)).1,fun i hi => wpOp_mono (fun a' w' h' => wpAny_of_E G fuel _ a' w' h'.2) ((h w (G.small.refl w)).2 i hi)⟩
theorem wpOp_putE {p : Bool} {j : Nat} {oi oj : Oper} {v : Value} (hj : ops[j]? = some oj) (hap : oi.apart ops oj = true)
    (hsi : ∀ cs b,oi.op ≠ .select cs b) (hsj : ∀ cs b,oj.op ≠ .select cs b)
    (hQ : ∀ c a w,Q (.panic c) (a.put oi.dst v) w → Q (.panic c) a w) {K : Act → World → Prop} {a : Act} {w : World}
    (h : wpOp P ops Q j K (a.put oi.dst v) w) :
    wpOp P ops Q j (fun a' w' => (∀ w0,YieldsE P ops R E p w0 oi v a → YieldsE P ops R E p w0 oi v a') ∧ K (a'.put oi.dst v) w') a w := by
  obtain ⟨h1,h2,h3⟩ := Oper.apart_spec hap
  have keep : ∀ (a : Act) u w0,YieldsE P ops R E p w0 oi v a → YieldsE P ops R E p w0 oi v (a.put oj.dst u) := fun a u w0 hy =>
    hy.of_same (execOp_put oi hsi a oj.dst u h3) (wanted_put oi a oj.dst u h3)
  have keepD : ∀ d w0,YieldsE P ops R E p w0 oi v a → YieldsE P ops R E p w0 oi v { a with defers := d :: a.defers } := fun d w0 hy => hy.of_same rfl rfl
  unfold wpOp at *
  simp only [hj] at *
  rw [wanted_put oj a oi.dst v h1] at h
  split
  · rename_i hw
    simp only [hw,if_true] at h
    rcases h with h | ⟨hasks,hlets⟩
    case inr => exact .inr ⟨by unfold Oper.asks at *;rw [execOp_put oj hsj a oi.dst v h1] at hasks;exact hasks,hlets⟩
    refine .inl ?_
    unfold Oper.wp at *
    rw [execOp_put oj hsj a oi.dst v h1] at h
    generalize (execOp a.eval oj).run P w = r at *
    cases r with
    | ok n w' =>
      cases n <;> simp only [Oper.upon] at h ⊢
      case value u => exact ⟨keep a u,by rw [← Act.put_comm a v u h2];exact h⟩
      case skip => exact ⟨keep a _,by rw [← Act.put_comm a v undef h2];exact h⟩
      case defer d =>
        refine ⟨fun w0 hy => keep _ _ _ (keepD d w0 hy),?_⟩
        rw [← Act.put_comm _ v undef h2, ← Act.put_defers]
        exact h
      case enter f args =>
        refine Calls.mono h fun e w'' he => ?_
        cases e with
        | returned u => exact ⟨keep a u,by rw [← Act.put_comm a v u h2];exact he⟩
        | panicked c => exact hQ _ _ _ he
        | outgrown => exact he
      case row row args => exact Rows.mono h fun u w'' he => ⟨keep a u,by rw [← Act.put_comm a v u h2];exact he⟩
    | halt x w' =>
      cases x <;> simp only [Oper.upon] at h ⊢
      case panic u => exact hQ _ _ _ h
  · rename_i hw
    simp only [hw] at h
    exact ⟨keep a _,by rw [← Act.put_comm a v undef h2];exact h⟩
theorem wpAnyE_first (G : Grow2 R E) {T : List Nat} (p : Bool) {i : Nat} {oi : Oper} {v : Value} (hi : ops[i]? = some oi) (hsel : ∀ (j : Nat) (o : Oper) cs b,ops[j]? = some o → o.op ≠ .select cs b)
    (hQ : ∀ c a w,Q (.panic c) (a.put oi.dst v) w → Q (.panic c) a w) :
    ∀ (fuel : Nat) (listed : Array Bool) (a : Act) (w : World),
      (∀ j oj,ops[j]? = some oj → j ≠ i → listed.getD j true = false → (∀ e ∈ oj.after,Region.binds md e = true → e.on ≠ i) → oi.apart ops oj = true) →
      (p = true ∨ ∀ j oj,j ∈ T → ops[j]? = some oj → listed.getD j true = false → ∃ e ∈ oj.after,Region.binds md e = true ∧ e.on = i) →
      i ∈ Region.ready md ops listed → YieldsE P ops R E p w oi v a →
      wpAnyE P md ops Q R E T fuel (listed.setIfInBounds i true) (a.put oi.dst v) w → wpAnyE P md ops Q R E T (fuel + 1) listed a w := by
  intro fuel
  induction fuel with
  | zero =>
    intro listed a w _ _ hr hy H w1 hw1
    refine ⟨fun h => (by rw [h] at hr;cases hr),fun j hj => ?_⟩
    by_cases hji : j = i
    · subst hji;exact wpOp_of_K hi (hy w1 (.inr (G.sub _ _ hw1))) G.small fun w' hR => ⟨fun _ => G.sub _ _ hR,wpAnyE_mono G H (G.small.trans _ _ _ hw1 hR)⟩
    · have := ready_mono hj hji
      rw [H.1] at this
      cases this
  | succ fuel ih =>
    intro listed a w hfree hwait hr hy H w1 hw1
    refine ⟨fun h => (by rw [h] at hr;cases hr),fun j hj => ?_⟩
    by_cases hji : j = i
    · subst hji;exact wpOp_of_K hi (hy w1 (.inr (G.sub _ _ hw1))) G.small fun w' hR => ⟨fun _ => G.sub _ _ hR,wpAnyE_mono G H (G.small.trans _ _ _ hw1 hR)⟩
    · have h1 := (H w1 hw1).2 j (ready_mono hj hji)
      obtain ⟨hjun,oj,hoj,hall⟩ := mem_ready.1 hj
      have hnot : ∀ e ∈ oj.after,Region.binds md e = true → e.on ≠ i := fun e he hb heq => by
        have h1 := hall e he hb
        have h0 := (mem_ready.1 hr).1
        rw [heq] at h1
        rcases Nat.lt_or_ge i listed.size with h' | h'
        · simp [h'] at h0 h1;rw [h0] at h1;cases h1
        · simp [Array.getElem?_eq_none h'] at h1
      have h2 := wpOp_putE (R := R) (E := E) (p := p) hoj (hfree j oj hoj hji hjun hnot) (fun cs b => hsel i oi cs b hi) (fun cs b => hsel j oj cs b hoj) hQ h1
      have hun' : ∀ k,(listed.setIfInBounds j true).getD k true = false → listed.getD k true = false := fun k hun => by
        by_cases hjk : j = k
        · subst hjk;exact hjun
        · rw [getD_set_ne true hjk] at hun;exact hun
      have hfree' : ∀ k ok,ops[k]? = some ok → k ≠ i → (listed.setIfInBounds j true).getD k true = false →
          (∀ e ∈ ok.after,Region.binds md e = true → e.on ≠ i) → oi.apart ops ok = true := fun k ok hk hki hun hno => hfree k ok hk hki (hun' k hun) hno
      have hwait' : p = true ∨ ∀ k ok,k ∈ T → ops[k]? = some ok → (listed.setIfInBounds j true).getD k true = false → ∃ e ∈ ok.after,Region.binds md e = true ∧ e.on = i :=
        hwait.imp id fun hwait k ok hk hok hun => hwait k ok hk hok (hun' k hun)
      have hjT : p = true ∨ j ∉ T := hwait.imp id fun hwait hT => by
        obtain ⟨e,he,hb,hon⟩ := hwait j oj hT hoj hjun
        exact hnot e he hb hon
      refine wpOp_mono (fun a' w' h3 => ⟨h3.2.1,ih (listed.setIfInBounds j true) a' w' hfree' hwait' (ready_mono hr (Ne.symm hji)) ((h3.1 w hy).mono G (hjT.imp id fun hjT => G.big.trans _ _ _ (G.sub _ _ hw1) (h3.2.1 hjT))) ?_⟩) h2
      rw [Array.setIfInBounds_comm _ _ hji]
      exact h3.2.2
def wpTakes (P : Program) (md : Region.Mode) (ops : List Oper) (Q : Exit → Act → World → Prop) (R E : World → World → Prop) (T : List Nat) (fuel : Nat) : List (Nat × Bool) → Array Bool → Act → World → Prop
  | [],listed,a,w => wpAnyE P md ops.toArray Q R E T fuel listed a w
  | (i,p) :: l,listed,a,w => ∃ o v,ops[i]? = some o ∧ YieldsE P ops.toArray R E p w o v a ∧ wpTakes P md ops Q R E T fuel l (listed.setIfInBounds i true) (a.put o.dst v) w
def Region.takesB (md : Region.Mode) (ops : Array Oper) (T : List Nat) : List (Nat × Bool) → Array Bool → Bool
  | [],_ => true
  | (i,p) :: l,listed => (Region.ready md ops listed).contains i && Region.free md ops listed i && (p || Region.waitB md ops T listed i) && Region.takesB md ops T l (listed.setIfInBounds i true)
theorem wpAnyE_takes (G : Grow2 R E) {T : List Nat} {ops : List Oper} (hs : Region.noSelect ops.toArray = true) (hQ : Steady Q) (fuel : Nat) : ∀ (l : List (Nat × Bool)) (listed : Array Bool) (a : Act) (w : World),
    Region.takesB md ops.toArray T l listed = true → wpTakes P md ops Q R E T fuel l listed a w → wpAnyE P md ops.toArray Q R E T (l.length + fuel) listed a w
  | [],listed,a,w,_,h => by simpa [wpTakes] using h
  | (i,p) :: l,listed,a,w,hB,h => by
    simp only [Region.takesB,Bool.and_eq_true,Bool.or_eq_true] at hB
    obtain ⟨o,v,ho,hy,hK⟩ := h
    have ho' : ops.toArray[i]? = some o := by simpa using ho
    rw [show ((i,p) :: l).length + fuel = (l.length + fuel) + 1 by simp;omega]
    exact wpAnyE_first G p ho' (Region.noSelect_spec hs) (fun c a w => hQ c a o.dst v w) (l.length + fuel) listed a w (Region.free_spec ho' hB.1.1.2) (hB.1.2.imp id fun h j oj hj hoj hun => Region.waitB_spec h j oj hj hoj hun) (by simpa using hB.1.1.1) hy (wpAnyE_takes G hs hQ fuel l _ _ _ hB.2 hK)
theorem wp_region_takes (G : Grow2 R E) (T : List Nat) (l : List (Nat × Bool)) (fuel : Nat) {id : Nat} {ops : List Oper} {a : Act} {w : World} (hm : P.follows .mixedOrders = true) (hs : Region.noSelect ops.toArray = true)
    (hl : l.length + fuel = ops.length) (hB : Region.takesB .any ops.toArray T l (Array.replicate ops.length false) = true) (hQ : Steady Q)
    (h : wpTakes P .any ops Q R E T fuel l (Array.replicate ops.length false) a w.drew) : (Code.region id ops.toArray true).wp P Q a w := by
  refine wp_region_any hm (wpAny_of_E G (T := T) _ _ _ _ ?_)
  have := wpAnyE_takes G hs hQ fuel l _ a _ hB h
  rw [hl] at this
  simpa using this
theorem wpTakes_take {T : List Nat} {ops : List Oper} {fuel i : Nat} {l : List (Nat × Bool)} {listed : Array Bool} {a : Act} {w : World} {o : Oper} (v : Value) (hi : ops[i]? = some o)
    (hy : ∀ w1,R w w1 → KGoal P ops.toArray E w1 o v a) (h : wpTakes P md ops Q R E T fuel l (listed.setIfInBounds i true) (a.put o.dst v) w) : wpTakes P md ops Q R E T fuel ((i,false) :: l) listed a w := ⟨o,v,hi,fun w1 h1 => hy w1 (h1.resolve_left (by simp)),h⟩
theorem wpTakes_pure {T : List Nat} {ops : List Oper} {fuel i : Nat} {l : List (Nat × Bool)} {listed : Array Bool} {a : Act} {w : World} {o : Oper} (v : Value) (hi : ops[i]? = some o)
    (hy : ∀ w1,KGoal P ops.toArray E w1 o v a) (h : wpTakes P md ops Q R E T fuel l (listed.setIfInBounds i true) (a.put o.dst v) w) : wpTakes P md ops Q R E T fuel ((i,true) :: l) listed a w := ⟨o,v,hi,fun w1 _ => hy w1,h⟩
theorem wpTakes_done {T : List Nat} {ops : List Oper} {fuel : Nat} {listed : Array Bool} {a : Act} {w : World} (h : wpAnyE P md ops.toArray Q R E T fuel listed a w) : wpTakes P md ops Q R E T fuel [] listed a w := h
theorem wpAnyE_take (G : Grow2 R E) {T : List Nat} {ops : List Oper} {fuel : Nat} {listed : Array Bool} {a : Act} {w : World} (i : Nat) {o : Oper} {v : Value} (hs : Region.noSelect ops.toArray = true) (hQ : Steady Q) (hi : ops[i]? = some o)
    (hB : ((Region.ready md ops.toArray listed).contains i && Region.free md ops.toArray listed i && Region.waitB md ops.toArray T listed i) = true)
    (hy : ∀ w1,R w w1 → KGoal P ops.toArray E w1 o v a) (h : wpAnyE P md ops.toArray Q R E T fuel (listed.setIfInBounds i true) (a.put o.dst v) w) : wpAnyE P md ops.toArray Q R E T (fuel + 1) listed a w := by
  simp only [Bool.and_eq_true] at hB
  have ho' : ops.toArray[i]? = some o := by simpa using hi
  exact wpAnyE_first G false ho' (Region.noSelect_spec hs) (fun c a w => hQ c a o.dst v w) fuel listed a w (Region.free_spec ho' hB.1.2) (.inr fun j oj hj hoj hun => Region.waitB_spec hB.2 j oj hj hoj hun) (by simpa using hB.1.1) (fun w1 h1 => hy w1 (h1.resolve_left (by simp))) h
theorem wpAnyE_pure (G : Grow2 R E) {T : List Nat} {ops : List Oper} {fuel : Nat} {listed : Array Bool} {a : Act} {w : World} (i : Nat) {o : Oper} {v : Value} (hs : Region.noSelect ops.toArray = true) (hQ : Steady Q) (hi : ops[i]? = some o)
    (hB : ((Region.ready md ops.toArray listed).contains i && Region.free md ops.toArray listed i) = true)
    (hy : ∀ w1,KGoal P ops.toArray E w1 o v a) (h : wpAnyE P md ops.toArray Q R E T fuel (listed.setIfInBounds i true) (a.put o.dst v) w) : wpAnyE P md ops.toArray Q R E T (fuel + 1) listed a w := by
  simp only [Bool.and_eq_true] at hB
  have ho' : ops.toArray[i]? = some o := by simpa using hi
  exact wpAnyE_first G true ho' (Region.noSelect_spec hs) (fun c a w => hQ c a o.dst v w) fuel listed a w (Region.free_spec ho' hB.2) (.inl rfl) (by simpa using hB.1) (fun w1 _ => hy w1) h
theorem wpAnyE_fork {T : List Nat} {ops : List Oper} {fuel : Nat} {listed : Array Bool} {a : Act} {w : World} (l : List Nat) (hl : Region.ready md ops.toArray listed = l) (hne : l ≠ [])
    (h : ∀ i ∈ l, ∃ o,ops[i]? = some o ∧ ∀ w1,E w w1 → ∀ K : Act → World → Prop,(∀ a' w',(i ∉ T → R w1 w') → wpAnyE P md ops.toArray Q R E T fuel (listed.setIfInBounds i true) a' w' → K a' w') →
      if Region.wanted o (yielded ops.toArray a.tmps) = true then o.wp P a w1 K Q else K (a.put o.dst undef) w1) : wpAnyE P md ops.toArray Q R E T (fuel + 1) listed a w := by
  intro w1 hw1
  rw [hl]
  refine ⟨fun e => absurd e hne,fun i hi => ?_⟩
  obtain ⟨o,ho,h'⟩ := h i hi
  have h' := h' w1 hw1 (fun a' w' => (i ∉ T → R w1 w') ∧ wpAnyE P md ops.toArray Q R E T fuel (listed.setIfInBounds i true) a' w') (fun a' w' hR hK => ⟨hR,hK⟩)
  have hi' : ops.toArray[i]? = some o := by simpa using ho
  unfold wpOp
  simp only [hi']
  split
  · rename_i hw;rw [if_pos hw] at h';exact .inl h'
  · rename_i hw;rw [if_neg hw] at h';exact h'
theorem wpAnyE_end {T : List Nat} {ops : List Oper} {listed : Array Bool} {a : Act} {w : World} (hl : Region.ready md ops.toArray listed = []) (h : ∀ w1,E w w1 → Q .normal a w1) : wpAnyE P md ops.toArray Q R E T 0 listed a w := ⟨hl,h⟩
end
def KeepB (B : Nat) (w w' : World) : Prop := B ≤ w.heap.size → Below B w w'
theorem KeepB.grow (B : Nat) : Grow2 (KeepB B) Newer :=
  ⟨⟨fun _ _ => Below.refl _ _,fun _ _ _ h h' hB => Below.trans (h hB) (h' (Nat.le_trans hB (h hB).size))⟩,Newer.grow,fun _ _ h hB => Below.mono h hB⟩
def KeepG (g : Nat) (w w' : World) : Prop := g < w.heap.size → w'.heap[g]? = w.heap[g]? ∧ w.heap.size ≤ w'.heap.size
theorem KeepG.grow (g : Nat) : Grow2 (KeepG g) Newer :=
  ⟨⟨fun _ _ => ⟨rfl,Nat.le_refl _⟩,fun _ _ _ h h' hB => ⟨((h' (Nat.lt_of_lt_of_le hB (h hB).2)).1).trans (h hB).1,Nat.le_trans (h hB).2 (h' (Nat.lt_of_lt_of_le hB (h hB).2)).2⟩⟩,Newer.grow,fun _ _ h hB => ⟨h.block g hB,h.size⟩⟩
theorem KeepG.blk {g : Nat} {t : TypeId} {cs : Array Value} {w w' : World} (h : KeepG g w w') (hb : Blk w g t cs) : Blk w' g t cs := (h hb.lt).1.trans hb
section
variable {S0 : Nat → Prop} {w0 w w' : World} {pre post : List Thing}
theorem Now.pushNone {L : List Thing} (h : Now S0 w0 w L) : Now S0 w0 w (Thing.none_ :: L) := h.push (Below.refl _ _) (S' := fun _ => False) (fun _ h => h) (fun _ h => h.elim)
theorem Now.built (h : Now S0 w0 w (pre ++ Thing.none_ :: post)) (t : TypeId) (size : Nat) : Now S0 w0 (w.alloc (.cells #[] t)) (pre ++ Thing.row t size (.slice (some ⟨w.heap.size,0,none⟩) 0 0) 0 [] :: post) := by
  obtain ⟨S,_,_,h2⟩ := h.at_
  exact h2 _ [Thing.row t size (.slice (some ⟨w.heap.size,0,none⟩) 0 0) 0 []] ⟨fun k => k = w.heap.size,⟨fun k => k = w.heap.size,fun _ => False,⟨World.ownsRow_lit (e := t) (base := 0) (size := size) w #[] 0 (Nat.zero_le _) (by simp [maxLen]) (by simp),fun k => by simp [Value.ownBlock,eq_comm]⟩,fun _ h => h,fun _ _ h => h,fun _ => ⟨.inl,fun h => h.elim id False.elim⟩⟩,(Fr.refl _ w).alloc _,fun k hk => .inr (Nat.le_of_eq hk.symm)⟩
end
end Go.Proofs.YtidacaihmjdmkaaGreat
namespace Go.Proofs.YtidacaihmjdmkaaGreat
open Go.RowKit
abbrev ints (l : List Int) : List Value := l.map (Value.int .i64)
abbrev u64s (l : List Int) : List Value := l.map (Value.int .u64)
theorem ints_one (l : List Int) : ∀ u ∈ ints l,u.oneCell' = true := by
  intro u hu
  obtain ⟨s,_,rfl⟩ := List.mem_map.1 hu
  rfl
theorem u64s_one (l : List Int) : ∀ u ∈ u64s l,u.oneCell' = true := by
  intro u hu
  obtain ⟨s,_,rfl⟩ := List.mem_map.1 hu
  rfl
theorem read_cell {w : World} {B : Nat} {A : Option Addr} {n : Nat} {xs : List Value} (h : Reads w B 1 A n xs) {k : Nat} (hk : k < n) {u : Value} (hu : xs[k]? = some u) : ∃ ad,A = some ad ∧ ad.block < B ∧ w.cell? (ad.add k) = some u := by
  obtain ⟨ad,v,e,hb,hx,hc⟩ := h.at_ hk
  rw [hu] at hx
  cases hx
  exact ⟨ad,e,hb,hc⟩
def idx : List Int → Int → Int
  | [],_ => -1
  | y :: l,x => if x = y then 0 else if idx l x < 0 then -1 else idx l x + 1
theorem idx_lt (l : List Int) (x : Int) : -1 ≤ idx l x ∧ idx l x < l.length := by
  induction l with
  | nil => exact ⟨by simp [idx],by simp [idx]⟩
  | cons y l ih =>
    have hlen : ((y :: l).length : Int) = l.length + 1 := by simp
    rw [hlen]
    unfold idx
    split
    · omega
    · split
      · omega
      · omega
theorem idx_none {l : List Int} {x : Int} (h : ∀ j : Nat,j < l.length → l[j]? ≠ some x) : idx l x = -1 := by
  induction l with
  | nil => rfl
  | cons y l ih =>
    have h0 := h 0 (by simp)
    have : idx l x = -1 := ih fun j hj => by
      have := h (j + 1) (by simpa using hj)
      simpa using this
    unfold idx
    rw [if_neg (by intro e;subst e;exact h0 rfl),this]
    rfl
theorem idx_at {l : List Int} {x : Int} {k : Nat} (hk : l[k]? = some x) (h : ∀ j : Nat,j < k → l[j]? ≠ some x) : idx l x = k := by
  induction l generalizing k with
  | nil => simp at hk
  | cons y l ih =>
    cases k with
    | zero =>
      simp at hk
      unfold idx
      rw [if_pos hk.symm];rfl
    | succ k =>
      have h0 := h 0 (by omega)
      have := ih (k := k) (by simpa using hk) (fun j hj => by
        have := h (j + 1) (by omega)
        simpa using this)
      unfold idx
      rw [if_neg (by intro e;subst e;exact h0 rfl),this,if_neg (by omega)]
      omega
theorem idx_some {l : List Int} {x : Int} (h : 0 ≤ idx l x) : l[(idx l x).toNat]? = some x := by
  induction l with
  | nil => simp [idx] at h
  | cons y l ih =>
    unfold idx at h ⊢
    by_cases e : x = y
    · rw [if_pos e];simp [e]
    · rw [if_neg e] at h ⊢
      by_cases h1 : idx l x < 0
      · rw [if_pos h1] at h;omega
      · rw [if_neg h1] at h ⊢
        have := ih (by omega)
        rw [show (idx l x + 1).toNat = (idx l x).toNat + 1 by omega]
        simpa using this
set_option maxHeartbeats 1000000 in
theorem Index_any (A : Option Addr) (n c B : Nat) (xs : List Int) (x : Int) (w : World) (h : Reads w B 1 A n (ints xs)) (hn : n ≤ 1000000000) :
    Calls Tryz.prog 150 #[.slice A n c, .int .i64 x] w fun e w' => e = .returned (.int .i64 (idx xs x)) ∧ w = w' := by
  have hl : xs.length = n := by have := h.1;simpa using this
  have HR := Lib.hid h
  clear h
  go_enter Tryz.func150,Tryz.ntmps150
  go_wp2
  go_loop [5,8] (fun _ i => ∃ k : Nat,k ≤ n ∧ i = .int .i64 k ∧ Hid (∀ j : Nat,j < k → xs[j]? ≠ some x)) (fun _ i => n - (intOf i).toNat)
  case atStart => exact ⟨0,by omega,rfl,Lib.hid (by intro j hj;omega)⟩
  case round =>
    obtain ⟨k,hk,rfl,hno⟩ := hrel
    by_cases hlt : k < n
    · have hkx : xs[k]? = some xs[k] := List.getElem?_eq_getElem (by omega)
      obtain ⟨ad,rfl,_,hc⟩ := read_cell (u := .int .i64 xs[k]) HR.out hlt (by rw [List.getElem?_map,hkx];rfl)
      have HK := Lib.hid hkx
      clear hkx
      generalize xs[k] = y at *
      by_cases hxy : x = y
      · subst hxy
        have hfin := Lib.hid (idx_at HK.out hno.out)
        clear hno
        go_wp2
        go_ret
        exact ⟨by rw [hfin.out];rfl,rfl⟩
      · have hno2 : Hid (∀ j : Nat,j < k + 1 → xs[j]? ≠ some x) := Lib.hid (by
          intro j hj e
          by_cases hjk : j = k
          · subst hjk
            rw [HK.out] at e
            exact hxy (Option.some.inj e).symm
          · exact hno.out j (by omega) e)
        go_wp2
        go_round
        case rel => exact ⟨k + 1,by omega,by go_num,hno2⟩
        case measure => simp [intOf];omega
    · obtain rfl : k = n := by omega
      have hfin := Lib.hid (idx_none (l := xs) (x := x) (fun j hj => hno.out j (by omega)))
      go_wp2
      go_ret
      exact ⟨by rw [hfin.out];rfl,rfl⟩
theorem Contains_any (A : Option Addr) (n c B : Nat) (xs : List Int) (x : Int) (w : World) (h : Reads w B 1 A n (ints xs)) (hn : n ≤ 1000000000) :
    Calls Tryz.prog 109 #[.slice A n c, .int .i64 x] w fun e w' => e = .returned (.bool (decide (0 ≤ idx xs x))) ∧ w = w' := by
  have hi := idx_lt xs x
  go_enter Tryz.func109,Tryz.ntmps109
  go_wp2_with (go_at_call 150;(with_reducible refine (Index_any A n c B xs x _ h hn).mono ?_);rintro e w' ⟨rfl,rfl⟩)
  go_ret
  exact ⟨rfl,rfl⟩
def Made (w w' : World) (t : TypeId) (n : Nat) (xs : List Value) (e : Ending) : Prop := ∃ A c,e = .returned (.slice A n c) ∧ w'.ownsRow w.heap.size t 1 (.slice A n c) n xs ∧ Below w.heap.size w w'
theorem blk_setCells {w : World} {b : Nat} {t : TypeId} : ∀ (vs : List Value) (o : Nat) (w : World) (cur : Array Value),Blk w b t cur → o + vs.length ≤ cur.size →
    ∃ cur',Blk (w.setCells b o vs) b t cur' ∧ cur'.size = cur.size ∧ ∀ q,cur'[q]? = if o ≤ q ∧ q < o + vs.length then vs[q - o]? else cur[q]?
  | [],o,w,cur,h,_ => ⟨cur,h,rfl,fun q => by rw [if_neg (fun hq => by have := hq.2;simp at this;omega)]⟩
  | v :: vs,o,w,cur,h,hl => by
    simp at hl
    obtain ⟨cur',h1,h2,h3⟩ := blk_setCells (w := w) vs (o + 1) _ _ (h.set_ o v) (by simp;omega)
    refine ⟨cur',h1,by simpa using h2,fun q => ?_⟩
    rw [h3 q]
    by_cases hq : o + 1 ≤ q ∧ q < o + 1 + vs.length
    · rw [if_pos hq,if_pos (by simp;omega),show q - o = (q - (o + 1)) + 1 by omega];rfl
    · rw [if_neg hq]
      by_cases hqo : q = o
      · subst hqo
        rw [if_pos (by simp),Array.getElem?_setIfInBounds_self_of_lt (by omega)];simp
      · rw [if_neg (by simp;omega),Array.getElem?_setIfInBounds_ne (by omega)]
theorem fr_setCells {b : Nat} : ∀ (vs : List Value) (o : Nat) (w w0 : World),Fr (fun k => k = b) w0 w → Fr (fun k => k = b) w0 (w.setCells b o vs)
  | [],_,_,_,h => h
  | v :: vs,o,w,w0,h => fr_setCells vs (o + 1) _ w0 (h.setCell (p := ⟨b,o,none⟩) (fun _ => rfl) v)
theorem infoInt : (Tryz.prog.info? 3).map (fun i => (i.zero,i.size,i.bytes)) = some (some (.int .i64 0),1,8) := by kernel_rfl
theorem infoU64 : (Tryz.prog.info? 43).map (fun i => (i.zero,i.size,i.bytes)) = some (some (.int .u64 0),1,8) := by kernel_rfl
set_option maxHeartbeats 1000000 in
theorem CloneI (A : Option Addr) (n c : Nat) (xs : List Value) (w : World) (h : Reads w w.heap.size 1 A n xs) (hz : A = none → c = 0) (h1 : ∀ u ∈ xs,u.oneCell' = true) (hn : n ≤ 1000000000) :
    Calls Tryz.prog 105 #[.slice A n c] w fun e w' => Made w w' 3 n xs e := by
  obtain ⟨i0,hi0,hz0,hz1,hz2⟩ := info_parts infoInt
  have hm1 : 0 + n ≤ maxLen := by unfold maxLen;omega
  have hm2 : (0 + n) * 8 ≤ 140737488355328 := by omega
  have hxl := h.1
  have hq := Lib.run_eql_slice_nil (P := Tryz.prog)
  cases A with
  | none =>
    have hc0 := hz rfl
    subst hc0
    have hn0 : n = 0 := by
      rcases Nat.eq_zero_or_pos n with h0 | h0
      · exact h0
      · obtain ⟨ad,e,_⟩ := h.2 h0
        cases e
    subst hn0
    have hx : xs = [] := List.eq_nil_of_length_eq_zero (by simpa using hxl)
    subst hx
    clear h hxl hz
    go_enter Tryz.func105,Tryz.ntmps105
    go_wp2
    go_ret
    exact ⟨_,_,rfl,World.ownsRow_nil ..,Below.refl _ _⟩
  | some ad =>
    have hown : (w.alloc (.cells #[] 3)).ownsRow w.heap.size 3 1 (.slice (some ⟨w.heap.size,0,none⟩) 0 0) 0 [] := World.ownsRow_lit (e := 3) (base := w.heap.size) (size := 1) w #[] 0 (Nat.le_refl _) (by simp [maxLen]) (by simp)
    have hr2 := (h.alloc (Nat.le_refl _) (.cells #[] 3)).more (B' := (w.alloc (.cells #[] 3)).heap.size) (by simp)
    have hbw : Below w.heap.size w (w.alloc (.cells #[] 3)) := (Below.refl _ w).alloc (Nat.le_refl _) _
    have hone := Lib.hid h1
    have hsz : w.heap.size ≤ (w.alloc (.cells #[] 3)).heap.size := by simp
    clear h hxl h1 hz
    go_enter Tryz.func105,Tryz.ntmps105
    go_wp2_with (at_builtin;refine wpList_append_any _ rfl _ _ 51 rfl w.heap.size 3 i0 _ 1 8 Tryz.underlying51 hi0 hz0 hz1 hz2 rfl (by decide) _ _ _ rfl hown _ _ n _ xs rfl hr2 hone.out hm1 hm2 hsz ?_;intro v' w2 ho hg hn')
    go_ret
    rw [Nat.zero_add,List.nil_append] at ho
    obtain ⟨A',c',rfl,_⟩ := own_slice2 ho
    have hb2 : Below w.heap.size (w.alloc (.cells #[] 3)) w2 := (Fr.of_grown (S := fun k => k = w.heap.size) hg (fun k e => by cases e;rfl)).below hsz (fun k _ e => Nat.le_of_eq e.symm)
    exact ⟨_,_,rfl,ho,hbw.trans hb2⟩
set_option maxHeartbeats 4000000 in
theorem DeleteI (b n c i : Nat) (xs : List Int) (w : World) (S : Nat → Prop) (hO : (Thing.row 3 1 (.slice (some ⟨b,0,none⟩) n c) n (ints xs)).is w S) (hi : i < n) (hn : n ≤ 1000000000) :
    Calls Tryz.prog 156 #[.slice (some ⟨b,0,none⟩) n c, .int .i64 i, .int .i64 ((i : Int) + 1)] w fun e w' => e = .returned (.slice (some ⟨b,0,none⟩) (n - 1) c) ∧ Now S w w' [Thing.row 3 1 (.slice (some ⟨b,0,none⟩) (n - 1) c) (n - 1) (ints (xs.eraseIdx i))] := by
  obtain ⟨i0,hi0,hz0,hz1,hz2⟩ := info_parts infoInt
  obtain ⟨ho,hS⟩ := hO
  have hl : xs.length = n := by have := ho.1;simpa using this
  rcases ho.2 with ⟨h1,_⟩ | ⟨g,cap,cur,hv,_,hh,hle,hmx,hs,hx⟩
  · cases h1
  simp only [Value.slice.injEq,Option.some.injEq,Addr.mk.injEq,and_true,true_and] at hv
  obtain ⟨rfl,rfl⟩ := hv
  have hb : Blk w b 3 cur := hh
  rw [Nat.mul_one] at hs hx
  have hcur : ∀ q,q < n → cur[q]? = (ints xs)[q]? := fun q hq => by rw [← hx,List.getElem?_take,if_pos hq];simp
  obtain ⟨news,hnews⟩ : ∃ news,news = (ints xs).drop (i + 1) := ⟨_,rfl⟩
  have hnl : news.length = n - (i + 1) := by rw [hnews];simp [hl]
  obtain ⟨cur1,k1,k2,k3⟩ := blk_setCells (w := w) news i w.drew cur hb (by omega)
  obtain ⟨cur2,j1,j2,j3⟩ := blk_setCells (w := w) [Value.int .i64 0] (n - 1) _ cur1 k1 (by simp;omega)
  have hF : Fr (fun k => k = b) w ((w.drew.setCells b i news).setCells b (n - 1) [Value.int .i64 0]) := fr_setCells _ _ _ _ (fr_setCells _ _ _ _ (Fr.refl (fun k => k = b) w).drew)
  have hfin : Now S w ((w.drew.setCells b i news).setCells b (n - 1) [Value.int .i64 0]) [Thing.row 3 1 (.slice (some ⟨b,0,none⟩) (n - 1) c) (n - 1) (ints (xs.eraseIdx i))] := by
    refine ⟨S,⟨S,fun _ => False,⟨⟨by rw [List.length_map,List.length_eraseIdx];rw [if_pos (by omega)];omega, .inr ⟨b,c,cur2,rfl,Nat.zero_le _,j1,by omega,hmx,by omega,?_⟩⟩,fun k => by rw [hS k];simp [Value.ownBlock]⟩,fun _ h => h,fun _ _ h => h,fun _ => ⟨.inl,fun h => h.elim id False.elim⟩⟩,hF.mono (fun k _ e => (hS k).2 (by rw [e];rfl)),fun _ h => .inl h⟩
    rw [Nat.mul_one]
    apply List.ext_getElem?
    intro q
    rw [List.getElem?_take]
    by_cases hq : q < n - 1
    · rw [if_pos hq,Array.getElem?_toList,j3 q,if_neg (by omega),k3 q,List.getElem?_map,List.getElem?_eraseIdx]
      by_cases hqi : q < i
      · rw [if_pos hqi,if_neg (by omega),hcur q (by omega),List.getElem?_map]
      · rw [if_neg hqi,if_pos (by omega),hnews,List.getElem?_drop,List.getElem?_map,show i + 1 + (q - i) = q + 1 by omega]
    · rw [if_neg hq,List.getElem?_eq_none]
      rw [List.length_map,List.length_eraseIdx,if_pos (by omega)];omega
  obtain ⟨ad,hA,hsrc⟩ : ∃ ad : Addr,(if c = i + 1 then some (⟨b,0,none⟩ : Addr) else some ⟨b,i + 1,none⟩) = some ad ∧ Hid (∀ t u,news[t]? = some u → w.drew.cell? (ad.add t) = some u) := by
    by_cases h : c = i + 1
    · refine ⟨⟨b,0,none⟩,by simp [h],Lib.hid fun t u hu => ?_⟩
      have h0 : news = [] := List.eq_nil_of_length_eq_zero (by omega)
      rw [h0] at hu
      simp at hu
    · refine ⟨⟨b,i + 1,none⟩,by simp [h],Lib.hid fun t u hu => ?_⟩
      have ht : t < n - (i + 1) := by have := (List.getElem?_eq_some_iff.1 hu).1;omega
      rw [hnews,List.getElem?_drop] at hu
      rw [Addr.add_lit]
      show w.cell? _ = _
      rw [hb.cell,hcur _ (by omega),hu]
  have s1 : Hid (news.length = (n - (i + 1)) * 1) := Lib.hid (by omega)
  have s2 : Hid (∀ u ∈ news,u.oneCell' = true) := Lib.hid fun u hu => ints_one xs u (by rw [hnews] at hu;exact List.mem_of_mem_drop hu)
  have s3 : Hid (∀ t,t < news.length → (w.drew.cell? ⟨b,0 + i * 1 + t,none⟩).isSome = true ∧ w.drew.frozen? ⟨b,0 + i * 1 + t,none⟩ = false) := Lib.hid fun t ht => by
    refine ⟨?_,hb.frozen _⟩
    show (w.cell? _).isSome = true
    rw [hb.cell,show 0 + i * 1 + t = i + t by omega,hcur _ (by omega)]
    rw [List.getElem?_eq_getElem (by simp;omega)];rfl
  obtain ⟨W1,hW1⟩ : ∃ W1,W1 = w.drew.setCells b (0 + i * 1) news := ⟨_,rfl⟩
  have hW1' : W1 = w.drew.setCells b i news := by rw [hW1,show 0 + i * 1 = i by omega]
  have hcl : ∀ ty,(Builtin.clear_ #[51] ty #[.slice (some ⟨b,n - 1,none⟩) 1 (c - (n - 1))]).run Tryz.prog W1 = .ok (.tuple #[]) (W1.setCells b (n - 1) [Value.int .i64 0]) := fun ty =>
    Lib.run_clear_slice W1 _ _ ty _ Tryz.underlying51 Tryz.zeroValue3 rfl rfl b (n - 1) 1 _ (by omega) (fun t ht => by
      have : Blk W1 b 3 cur1 := hW1' ▸ k1
      rw [this.cell]
      rw [Array.getElem?_eq_getElem (by omega)];rfl) (fun t ht => (show Blk W1 b 3 cur1 from hW1' ▸ k1).frozen _)
  have hW : Hid (W1 = w.drew.setCells b (0 + i * 1) news) := Lib.hid hW1
  have HF := Lib.hid hfin
  rw [← hW1'] at HF
  have e1 : IntKind.i64.wrap ((i : Int) + 1) = (i : Int) + 1 := IntWalk.i64_in _ (by omega)
  have hic : i ≤ c := by omega
  have hi0' : (0 : Int) ≤ (i : Int) + 1 := by omega
  have hi1' : (i : Int) + 1 ≤ (n : Int) := by omega
  have hjc : i + 1 ≤ c := by omega
  have hm63 : c ≤ 9223372036854775807 := by unfold maxLen at hmx;omega
  clear hW1 hW1' hb hh hcur hnews hnl k1 k2 k3 j1 j2 j3 hF hfin hs hx ho hmx
  go_enter Tryz.func156,Tryz.ntmps156
  go_wp2_with fail
  go_region_law (refine step_append_room rfl (.tmp 22) (.tmp 25) 51 rfl 3 i0 1 Tryz.underlying51 hi0 hz1 b 0 i c (by simp [Act.eval,Act.put]) ad (n - (i + 1)) (c - (i + 1)) news (by simp [Act.eval,Act.put]) s1.out hsrc.out s2.out (by omega) s3.out ?_;rw [← hW.out])
  have e2 : i + (n - (i + 1)) = n - 1 := by omega
  have e3 : n - (n - 1) = 1 := by omega
  rw [e2]
  go_wp2
  go_ret
  exact ⟨rfl,HF.out⟩
theorem DeleteI_in {S0 : Nat → Prop} {w0 w : World} {pre post : List Thing} (b n c i : Nat) (xs : List Int) (hN : Now S0 w0 w (pre ++ Thing.row 3 1 (.slice (some ⟨b,0,none⟩) n c) n (ints xs) :: post)) (hi : i < n) (hn : n ≤ 1000000000) :
    Calls Tryz.prog 156 #[.slice (some ⟨b,0,none⟩) n c, .int .i64 i, .int .i64 ((i : Int) + 1)] w fun e w' => e = .returned (.slice (some ⟨b,0,none⟩) (n - 1) c) ∧ w.heap.size ≤ w'.heap.size ∧ Now S0 w0 w' (pre ++ Thing.row 3 1 (.slice (some ⟨b,0,none⟩) (n - 1) c) (n - 1) (ints (xs.eraseIdx i)) :: post) := by
  obtain ⟨S,h1,_,h2⟩ := hN.at_
  exact (DeleteI b n c i xs w S h1 hi hn).mono fun e w' ⟨he,h3⟩ => ⟨he,h3.size,h2 w' _ h3⟩
set_option maxHeartbeats 1000000 in
theorem CloneU (A : Option Addr) (n c : Nat) (xs : List Value) (w : World) (h : Reads w w.heap.size 1 A n xs) (hz : A = none → c = 0) (h1 : ∀ u ∈ xs,u.oneCell' = true) (hn : n ≤ 1000000000) :
    Calls Tryz.prog 106 #[.slice A n c] w fun e w' => Made w w' 43 n xs e := by
  obtain ⟨i0,hi0,hz0,hz1,hz2⟩ := info_parts infoU64
  have hm1 : 0 + n ≤ maxLen := by unfold maxLen;omega
  have hm2 : (0 + n) * 8 ≤ 140737488355328 := by omega
  have hxl := h.1
  have hq := Lib.run_eql_slice_nil (P := Tryz.prog)
  cases A with
  | none =>
    have hc0 := hz rfl
    subst hc0
    have hn0 : n = 0 := by
      rcases Nat.eq_zero_or_pos n with h0 | h0
      · exact h0
      · obtain ⟨ad,e,_⟩ := h.2 h0
        cases e
    subst hn0
    have hx : xs = [] := List.eq_nil_of_length_eq_zero (by simpa using hxl)
    subst hx
    clear h hxl hz
    go_enter Tryz.func106,Tryz.ntmps106
    go_wp2
    go_ret
    exact ⟨_,_,rfl,World.ownsRow_nil ..,Below.refl _ _⟩
  | some ad =>
    have hown : (w.alloc (.cells #[] 43)).ownsRow w.heap.size 43 1 (.slice (some ⟨w.heap.size,0,none⟩) 0 0) 0 [] := World.ownsRow_lit (e := 43) (base := w.heap.size) (size := 1) w #[] 0 (Nat.le_refl _) (by simp [maxLen]) (by simp)
    have hr2 := (h.alloc (Nat.le_refl _) (.cells #[] 43)).more (B' := (w.alloc (.cells #[] 43)).heap.size) (by simp)
    have hbw : Below w.heap.size w (w.alloc (.cells #[] 43)) := (Below.refl _ w).alloc (Nat.le_refl _) _
    have hone := Lib.hid h1
    have hsz : w.heap.size ≤ (w.alloc (.cells #[] 43)).heap.size := by simp
    clear h hxl h1 hz
    go_enter Tryz.func106,Tryz.ntmps106
    go_wp2_with (at_builtin;refine wpList_append_any _ rfl _ _ 62 rfl w.heap.size 43 i0 _ 1 8 Tryz.underlying62 hi0 hz0 hz1 hz2 rfl (by decide) _ _ _ rfl hown _ _ n _ xs rfl hr2 hone.out hm1 hm2 hsz ?_;intro v' w2 ho hg hn')
    go_ret
    rw [Nat.zero_add,List.nil_append] at ho
    obtain ⟨A',c',rfl,_⟩ := own_slice2 ho
    have hb2 : Below w.heap.size (w.alloc (.cells #[] 43)) w2 := (Fr.of_grown (S := fun k => k = w.heap.size) hg (fun k e => by cases e;rfl)).below hsz (fun k _ e => Nat.le_of_eq e.symm)
    exact ⟨_,_,rfl,ho,hbw.trans hb2⟩
set_option maxHeartbeats 4000000 in
theorem DeleteU (b n c i : Nat) (xs : List Int) (w : World) (S : Nat → Prop) (hO : (Thing.row 43 1 (.slice (some ⟨b,0,none⟩) n c) n (u64s xs)).is w S) (hi : i < n) (hn : n ≤ 1000000000) :
    Calls Tryz.prog 157 #[.slice (some ⟨b,0,none⟩) n c, .int .i64 i, .int .i64 ((i : Int) + 1)] w fun e w' => e = .returned (.slice (some ⟨b,0,none⟩) (n - 1) c) ∧ Now S w w' [Thing.row 43 1 (.slice (some ⟨b,0,none⟩) (n - 1) c) (n - 1) (u64s (xs.eraseIdx i))] := by
  obtain ⟨i0,hi0,hz0,hz1,hz2⟩ := info_parts infoU64
  obtain ⟨ho,hS⟩ := hO
  have hl : xs.length = n := by have := ho.1;simpa using this
  rcases ho.2 with ⟨h1,_⟩ | ⟨g,cap,cur,hv,_,hh,hle,hmx,hs,hx⟩
  · cases h1
  simp only [Value.slice.injEq,Option.some.injEq,Addr.mk.injEq,and_true,true_and] at hv
  obtain ⟨rfl,rfl⟩ := hv
  have hb : Blk w b 43 cur := hh
  rw [Nat.mul_one] at hs hx
  have hcur : ∀ q,q < n → cur[q]? = (u64s xs)[q]? := fun q hq => by rw [← hx,List.getElem?_take,if_pos hq];simp
  obtain ⟨news,hnews⟩ : ∃ news,news = (u64s xs).drop (i + 1) := ⟨_,rfl⟩
  have hnl : news.length = n - (i + 1) := by rw [hnews];simp [hl]
  obtain ⟨cur1,k1,k2,k3⟩ := blk_setCells (w := w) news i w.drew cur hb (by omega)
  obtain ⟨cur2,j1,j2,j3⟩ := blk_setCells (w := w) [Value.int .u64 0] (n - 1) _ cur1 k1 (by simp;omega)
  have hF : Fr (fun k => k = b) w ((w.drew.setCells b i news).setCells b (n - 1) [Value.int .u64 0]) := fr_setCells _ _ _ _ (fr_setCells _ _ _ _ (Fr.refl (fun k => k = b) w).drew)
  have hfin : Now S w ((w.drew.setCells b i news).setCells b (n - 1) [Value.int .u64 0]) [Thing.row 43 1 (.slice (some ⟨b,0,none⟩) (n - 1) c) (n - 1) (u64s (xs.eraseIdx i))] := by
    refine ⟨S,⟨S,fun _ => False,⟨⟨by rw [List.length_map,List.length_eraseIdx];rw [if_pos (by omega)];omega, .inr ⟨b,c,cur2,rfl,Nat.zero_le _,j1,by omega,hmx,by omega,?_⟩⟩,fun k => by rw [hS k];simp [Value.ownBlock]⟩,fun _ h => h,fun _ _ h => h,fun _ => ⟨.inl,fun h => h.elim id False.elim⟩⟩,hF.mono (fun k _ e => (hS k).2 (by rw [e];rfl)),fun _ h => .inl h⟩
    rw [Nat.mul_one]
    apply List.ext_getElem?
    intro q
    rw [List.getElem?_take]
    by_cases hq : q < n - 1
    · rw [if_pos hq,Array.getElem?_toList,j3 q,if_neg (by omega),k3 q,List.getElem?_map,List.getElem?_eraseIdx]
      by_cases hqi : q < i
      · rw [if_pos hqi,if_neg (by omega),hcur q (by omega),List.getElem?_map]
      · rw [if_neg hqi,if_pos (by omega),hnews,List.getElem?_drop,List.getElem?_map,show i + 1 + (q - i) = q + 1 by omega]
    · rw [if_neg hq,List.getElem?_eq_none]
      rw [List.length_map,List.length_eraseIdx,if_pos (by omega)];omega
  obtain ⟨ad,hA,hsrc⟩ : ∃ ad : Addr,(if c = i + 1 then some (⟨b,0,none⟩ : Addr) else some ⟨b,i + 1,none⟩) = some ad ∧ Hid (∀ t u,news[t]? = some u → w.drew.cell? (ad.add t) = some u) := by
    by_cases h : c = i + 1
    · refine ⟨⟨b,0,none⟩,by simp [h],Lib.hid fun t u hu => ?_⟩
      have h0 : news = [] := List.eq_nil_of_length_eq_zero (by omega)
      rw [h0] at hu
      simp at hu
    · refine ⟨⟨b,i + 1,none⟩,by simp [h],Lib.hid fun t u hu => ?_⟩
      have ht : t < n - (i + 1) := by have := (List.getElem?_eq_some_iff.1 hu).1;omega
      rw [hnews,List.getElem?_drop] at hu
      rw [Addr.add_lit]
      show w.cell? _ = _
      rw [hb.cell,hcur _ (by omega),hu]
  have s1 : Hid (news.length = (n - (i + 1)) * 1) := Lib.hid (by omega)
  have s2 : Hid (∀ u ∈ news,u.oneCell' = true) := Lib.hid fun u hu => u64s_one xs u (by rw [hnews] at hu;exact List.mem_of_mem_drop hu)
  have s3 : Hid (∀ t,t < news.length → (w.drew.cell? ⟨b,0 + i * 1 + t,none⟩).isSome = true ∧ w.drew.frozen? ⟨b,0 + i * 1 + t,none⟩ = false) := Lib.hid fun t ht => by
    refine ⟨?_,hb.frozen _⟩
    show (w.cell? _).isSome = true
    rw [hb.cell,show 0 + i * 1 + t = i + t by omega,hcur _ (by omega)]
    rw [List.getElem?_eq_getElem (by simp;omega)];rfl
  obtain ⟨W1,hW1⟩ : ∃ W1,W1 = w.drew.setCells b (0 + i * 1) news := ⟨_,rfl⟩
  have hW1' : W1 = w.drew.setCells b i news := by rw [hW1,show 0 + i * 1 = i by omega]
  have hcl : ∀ ty,(Builtin.clear_ #[62] ty #[.slice (some ⟨b,n - 1,none⟩) 1 (c - (n - 1))]).run Tryz.prog W1 = .ok (.tuple #[]) (W1.setCells b (n - 1) [Value.int .u64 0]) := fun ty =>
    Lib.run_clear_slice W1 _ _ ty _ Tryz.underlying62 Tryz.zeroValue43 rfl rfl b (n - 1) 1 _ (by omega) (fun t ht => by
      have : Blk W1 b 43 cur1 := hW1' ▸ k1
      rw [this.cell]
      rw [Array.getElem?_eq_getElem (by omega)];rfl) (fun t ht => (show Blk W1 b 43 cur1 from hW1' ▸ k1).frozen _)
  have hW : Hid (W1 = w.drew.setCells b (0 + i * 1) news) := Lib.hid hW1
  have HF := Lib.hid hfin
  rw [← hW1'] at HF
  have e1 : IntKind.i64.wrap ((i : Int) + 1) = (i : Int) + 1 := IntWalk.i64_in _ (by omega)
  have hic : i ≤ c := by omega
  have hi0' : (0 : Int) ≤ (i : Int) + 1 := by omega
  have hi1' : (i : Int) + 1 ≤ (n : Int) := by omega
  have hjc : i + 1 ≤ c := by omega
  have hm63 : c ≤ 9223372036854775807 := by unfold maxLen at hmx;omega
  clear hW1 hW1' hb hh hcur hnews hnl k1 k2 k3 j1 j2 j3 hF hfin hs hx ho hmx
  go_enter Tryz.func157,Tryz.ntmps157
  go_wp2_with fail
  go_region_law (refine step_append_room rfl (.tmp 22) (.tmp 25) 62 rfl 43 i0 1 Tryz.underlying62 hi0 hz1 b 0 i c (by simp [Act.eval,Act.put]) ad (n - (i + 1)) (c - (i + 1)) news (by simp [Act.eval,Act.put]) s1.out hsrc.out s2.out (by omega) s3.out ?_;rw [← hW.out])
  have e2 : i + (n - (i + 1)) = n - 1 := by omega
  have e3 : n - (n - 1) = 1 := by omega
  rw [e2]
  go_wp2
  go_ret
  exact ⟨rfl,HF.out⟩
theorem DeleteU_in {S0 : Nat → Prop} {w0 w : World} {pre post : List Thing} (b n c i : Nat) (xs : List Int) (hN : Now S0 w0 w (pre ++ Thing.row 43 1 (.slice (some ⟨b,0,none⟩) n c) n (u64s xs) :: post)) (hi : i < n) (hn : n ≤ 1000000000) :
    Calls Tryz.prog 157 #[.slice (some ⟨b,0,none⟩) n c, .int .i64 i, .int .i64 ((i : Int) + 1)] w fun e w' => e = .returned (.slice (some ⟨b,0,none⟩) (n - 1) c) ∧ w.heap.size ≤ w'.heap.size ∧ Now S0 w0 w' (pre ++ Thing.row 43 1 (.slice (some ⟨b,0,none⟩) (n - 1) c) (n - 1) (u64s (xs.eraseIdx i)) :: post) := by
  obtain ⟨S,h1,_,h2⟩ := hN.at_
  exact (DeleteU b n c i xs w S h1 hi hn).mono fun e w' ⟨he,h3⟩ => ⟨he,h3.size,h2 w' _ h3⟩
end Go.Proofs.YtidacaihmjdmkaaGreat
namespace Go.Proofs.YtidacaihmjdmkaaGreat
open Go.RowKit
attribute [local go_sem high] run_mx run_mn
structure Tab where
  segs : Int
  slots : Int
  order : List Int
  lens : List Int
  firsts : List Int
structure Tab.Ok (T : Tab) : Prop where
  segs : 4 ≤ T.segs ∧ T.segs ≤ 16
  slots : 1 ≤ T.slots ∧ T.slots ≤ 30
  pos : 1 ≤ T.order.length
  many : T.order.length ≤ 16
  len : T.lens.length = T.order.length
  fst : T.firsts.length = T.order.length
  inn : ∀ s ∈ T.order,0 ≤ s ∧ s < T.segs
  nodup : T.order.Nodup
  lens : ∀ l ∈ T.lens,0 ≤ l ∧ l ≤ T.slots
  firsts : ∀ f ∈ T.firsts,0 ≤ f ∧ f < 18446744073709551616
abbrev tabCells (T : Tab) (AO : Option Addr) (cO : Nat) (AL : Option Addr) (cL : Nat) (AF : Option Addr) (cF : Nat) : Array Value :=
  #[.int .i64 T.segs, .int .i64 T.slots, .slice AO T.order.length cO, .slice AL T.lens.length cL, .slice AF T.firsts.length cF]
structure TabIn (w : World) (B : Nat) (T : Tab) (AO : Option Addr) (AL : Option Addr) (AF : Option Addr) : Prop where
  o : Reads w B 1 AO T.order.length (ints T.order)
  l : Reads w B 1 AL T.lens.length (ints T.lens)
  f : Reads w B 1 AF T.firsts.length (u64s T.firsts)
section
variable {w w' : World} {B B' : Nat} {T : Tab} {AO AL AF : Option Addr}
theorem TabIn.below (h : TabIn w B T AO AL AF) (hb : Below B w w') : TabIn w' B T AO AL AF := ⟨h.o.below hb,h.l.below hb,h.f.below hb⟩
theorem TabIn.more (h : TabIn w B T AO AL AF) (hB : B ≤ B') : TabIn w B' T AO AL AF := ⟨h.o.more hB,h.l.more hB,h.f.more hB⟩
theorem TabIn.alloc (h : TabIn w B T AO AL AF) (hB : B ≤ w.heap.size) (o : Obj) : TabIn (w.alloc o) B T AO AL AF := ⟨h.o.alloc hB o,h.l.alloc hB o,h.f.alloc hB o⟩
theorem TabIn.drew (h : TabIn w B T AO AL AF) : TabIn w.drew B T AO AL AF := ⟨h.o.drew,h.l.drew,h.f.drew⟩
end
def Tab.len (T : Tab) (s : Int) : Int := if 0 ≤ idx T.order s then T.lens[(idx T.order s).toNat]?.getD 0 else 0
def Tab.last (T : Tab) : Int := T.lens[T.lens.length - 1]?.getD 0
def Tab.room (T : Tab) : Int := T.slots - T.last + T.slots * (T.segs - T.order.length)
theorem Tab.Ok.last {T : Tab} (h : T.Ok) : T.lens[T.lens.length - 1]? = some T.last ∧ 0 ≤ T.last ∧ T.last ≤ T.slots := by
  have hl := h.len
  have hp := h.pos
  have e : T.lens[T.lens.length - 1]? = some T.lens[T.lens.length - 1] := List.getElem?_eq_getElem (by omega)
  unfold Tab.last
  rw [e]
  exact ⟨rfl,h.lens _ (List.getElem_mem _)⟩
theorem nodup_le (N : Nat) : ∀ l : List Int,l.Nodup → (∀ x ∈ l,0 ≤ x ∧ x < (N : Int)) → l.length ≤ N := by
  induction N with
  | zero =>
    intro l _ h
    cases l with
    | nil => simp
    | cons x l => have := h x (by simp);omega
  | succ N ih =>
    intro l hn h
    by_cases hm : (N : Int) ∈ l
    · have := ih (l.erase (N : Int)) (hn.erase _) (fun x hx => by
        obtain ⟨h1,h2⟩ := hn.mem_erase_iff.1 hx
        have := h x h2
        omega)
      rw [List.length_erase_of_mem hm] at this
      omega
    · have := ih l hn (fun x hx => by
        have h1 := h x hx
        have : x ≠ (N : Int) := by rintro rfl;exact hm hx
        omega)
      omega
theorem Tab.Ok.le_segs {T : Tab} (h : T.Ok) : (T.order.length : Int) ≤ T.segs := by
  have h1 := h.nodup
  have h2 := h.inn
  have h3 := h.segs
  obtain ⟨N,hN⟩ : ∃ N : Nat,T.segs = N := ⟨T.segs.toNat,by omega⟩
  have := nodup_le N T.order h1 (fun x hx => by have := h2 x hx;omega)
  omega
theorem last_any (T : Tab) (hT : T.Ok) (AO : Option Addr) (cO : Nat) (AL : Option Addr) (cL : Nat) (AF : Option Addr) (cF : Nat) (w : World) :
    Calls Tryz.prog 149 #[.agg (tabCells T AO cO AL cL AF cF)] w fun e w' => e = .returned (.int .i64 (T.order.length - 1 : Nat)) ∧ Newer w w' := by
  have hp := hT.pos
  have hm := hT.many
  have e : ((T.order.length - 1 : Nat) : Int) = (T.order.length : Int) - 1 := by omega
  have HE := Lib.hid e
  clear e
  go_enter Tryz.func149,Tryz.ntmps149
  go_wp2
  go_ret
  exact ⟨by rw [HE.out];rfl,(Newer.refl w).alloc _⟩
set_option maxHeartbeats 1000000 in
theorem Len_tab (T : Tab) (hT : T.Ok) (AO : Option Addr) (cO : Nat) (AL : Option Addr) (cL : Nat) (AF : Option Addr) (cF : Nat) (s : Int) (w : World) (B : Nat) (hB : B ≤ w.heap.size) (h : TabIn w B T AO AL AF) :
    Calls Tryz.prog 97 #[.agg (tabCells T AO cO AL cL AF cF), .int .i64 s] w fun e w' => e = .returned (.int .i64 (T.len s)) ∧ Newer w w' := by
  have h1 := h.alloc hB (.cells (tabCells T AO cO AL cL AF cF) 64)
  have hi := Index_any AO T.order.length cO B T.order s _ h1.o (by have := hT.many;omega)
  have hlt := idx_lt T.order s
  have hlen := hT.len
  have hmn := hT.many
  by_cases h0 : 0 ≤ idx T.order s
  · have hT1 : T.len s = T.lens[(idx T.order s).toNat]?.getD 0 := if_pos h0
    rw [hT1]
    obtain ⟨q,hq⟩ : ∃ q : Nat,idx T.order s = q := ⟨(idx T.order s).toNat,by omega⟩
    rw [hq] at hi hlt
    rw [hq,Int.toNat_natCast]
    have hql : q < T.lens.length := by omega
    have hqx : T.lens[q]? = some T.lens[q] := List.getElem?_eq_getElem hql
    obtain ⟨ad,rfl,_,hc⟩ := read_cell (u := .int .i64 T.lens[q]) h1.l hql (by rw [List.getElem?_map,hqx];rfl)
    rw [hqx]
    have hq1 : (q : Int) < (T.lens.length : Int) := by omega
    show Calls _ _ _ _ fun e w' => e = .returned (.int .i64 T.lens[q]) ∧ Newer w w'
    generalize T.lens[q] = y at *
    have HL := Lib.hid hlen
    clear hq hT1 h0 hqx hlen h1 h hT
    go_enter Tryz.func97,Tryz.ntmps97
    go_wp2_with (go_at_call 150;(with_reducible refine hi.mono ?_);rintro e w' ⟨rfl,rfl⟩)
    go_ret
    exact ⟨rfl,(Newer.refl w).alloc _⟩
  · have hT1 : T.len s = 0 := if_neg h0
    rw [hT1]
    have hneg : idx T.order s ≤ -1 := by omega
    generalize idx T.order s = y at *
    have HL := Lib.hid hlen
    clear hT1 h0 hlen h1 h hT
    go_enter Tryz.func97,Tryz.ntmps97
    go_wp2_with (go_at_call 150;(with_reducible refine hi.mono ?_);rintro e w' ⟨rfl,rfl⟩)
    go_ret
    exact ⟨rfl,(Newer.refl w).alloc _⟩
set_option maxHeartbeats 4000000 in
theorem Room_tab (T : Tab) (hT : T.Ok) (AO : Option Addr) (cO : Nat) (AL : Option Addr) (cL : Nat) (AF : Option Addr) (cF : Nat) (w : World) (B : Nat) (hB : B ≤ w.heap.size) (h : TabIn w B T AO AL AF) :
    Calls Tryz.prog 95 #[.agg (tabCells T AO cO AL cL AF cF)] w fun e w' => e = .returned (.int .i64 T.room) ∧ Newer w w' := by
  have h1 := h.alloc hB (.cells (tabCells T AO cO AL cL AF cF) 64)
  have hp := hT.pos
  have hmn := hT.many
  have hsg := hT.segs
  have hsl := hT.slots
  have hle := hT.le_segs
  obtain ⟨hl1,hl2,hl3⟩ := hT.last
  have hlen := hT.len
  rw [hlen] at hl1
  obtain ⟨ad,rfl,hadB,hc⟩ := read_cell (k := T.order.length - 1) (u := .int .i64 T.last) h1.l (by omega) (by rw [List.getElem?_map,hl1];rfl)
  have hb := Blk.new w 64 (tabCells T AO cO (some ad) cL AF cF)
  have hcell : ∀ w1,Newer (w.alloc (.cells (tabCells T AO cO (some ad) cL AF cF) 64)).drew w1 → w1.cell? ⟨w.heap.size,0,none⟩ = some (.int .i64 T.segs) ∧ w1.cell? ⟨w.heap.size,1,none⟩ = some (.int .i64 T.slots) ∧ w1.cell? ⟨w.heap.size,2,none⟩ = some (.slice AO T.order.length cO) ∧ w1.cell? ⟨w.heap.size,3,none⟩ = some (.slice (some ad) T.lens.length cL) ∧ w1.cell? ⟨w.heap.size,4,none⟩ = some (.slice AF T.firsts.length cF) ∧ w1.cell? (ad.add (T.order.length - 1)) = some (.int .i64 T.last) := fun w1 hw => by
    have hb1 := hb.below hw.undrew hb.lt
    exact ⟨hb1.cell 0,hb1.cell 1,hb1.cell 2,hb1.cell 3,hb1.cell 4,(hw.undrew.cell (by rw [block_of_add];simp;omega)).trans hc⟩
  have hW : Newer w (w.alloc (.cells (tabCells T AO cO (some ad) cL AF cF) 64)) := (Newer.refl w).alloc _
  obtain ⟨m,hm⟩ : ∃ m : Nat,T.order.length - 1 = m := ⟨_,rfl⟩
  have hlast := fun v => last_any T hT AO cO (some ad) cL AF cF v
  rw [hm] at hcell hlast
  have hm1 : (m : Int) < (T.lens.length : Int) := by omega
  have x1 : 0 ≤ T.slots * (T.segs - T.order.length) := Int.mul_nonneg (by omega) (by omega)
  have x2 : T.slots * (T.segs - T.order.length) ≤ 30 * 16 := Int.mul_le_mul (by omega) (by omega) (by omega) (by omega)
  have e1 : IntKind.i64.wrap (T.slots - T.last) = T.slots - T.last := IntWalk.i64_in _ (by omega)
  have e2 : IntKind.i64.wrap (T.segs - T.order.length) = T.segs - T.order.length := IntWalk.i64_in _ (by omega)
  have e3 : IntKind.i64.wrap (T.slots * (T.segs - T.order.length)) = T.slots * (T.segs - T.order.length) := IntWalk.i64_in _ (by omega)
  have e4 : IntKind.i64.wrap (T.slots - T.last + T.slots * (T.segs - T.order.length)) = T.slots - T.last + T.slots * (T.segs - T.order.length) := IntWalk.i64_in _ (by omega)
  have HLEN := Lib.hid hlen
  clear hlen h1 h hT hm hl1 hc hb
  go_enter Tryz.func95,Tryz.ntmps95
  go_wp2_with fail
  refine wp_region_ord Newer.grow [(0,true),(1,true),(2,true),(3,true),(4,true),(5,true),(6,true),(7,true),(8,true),(9,true),(10,true),(11,true),(12,true),(13,true),(14,true),(15,true),(16,true),(17,true),(18,true),(19,true)] [] (by kernel_rfl) (by kernel_rfl) rfl (by kernel_rfl) (by intro _ _ d _ _ h;cases d <;> exact h) ?_
  iterate 20
    (apply wpOrd_take
     · exact rfl
     · intro w1 h1
       (obtain ⟨c0,c1,c2,c3,c4,c5⟩ := hcell w1 h1)
       go_simp
       first
         | with_reducible exact ⟨rfl,sqN _⟩
         | with_reducible exact hlast _
     simp only [Act.put,sqA,sqB,sqC])
  refine wpOrd_done fun w6 h6 => ?_
  go_wp2_with fail
  go_ret
  exact ⟨rfl,hW.trans h6.undrew⟩
end Go.Proofs.YtidacaihmjdmkaaGreat
namespace Go.Proofs.YtidacaihmjdmkaaGreat
open Go.RowKit
attribute [local go_sem high] run_mx run_mn
section
variable {S0 : Nat → Prop} {w0 w w' : World} {pre post : List Thing}
theorem Now.builtRow (h : Now S0 w0 w (pre ++ Thing.none_ :: post)) (t : TypeId) (xs : Array Value) (n : Nat) (hn : xs.size = n) (hm : n ≤ maxLen) : Now S0 w0 (w.alloc (.cells xs t)) (pre ++ Thing.row t 1 (.slice (some ⟨w.heap.size,0,none⟩) n n) n xs.toList :: post) := by
  obtain ⟨S,_,_,h2⟩ := h.at_
  exact h2 _ [Thing.row t 1 (.slice (some ⟨w.heap.size,0,none⟩) n n) n xs.toList] ⟨fun k => k = w.heap.size,⟨fun k => k = w.heap.size,fun _ => False,⟨World.ownsRow_lit (e := t) (base := 0) (size := 1) w xs n (Nat.zero_le _) hm (by omega),fun k => by simp [Value.ownBlock,eq_comm]⟩,fun _ h => h,fun _ _ h => h,fun _ => ⟨.inl,fun h => h.elim id False.elim⟩⟩,(Fr.refl _ w).alloc _,fun k hk => .inr (Nat.le_of_eq hk.symm)⟩
theorem Now.set5 {g : Nat} {t : TypeId} {x0 x1 x2 x3 x4 : Value} (h : Now S0 w0 w (pre ++ Thing.cells g t #[x0,x1,x2,x3,x4] :: post)) (y0 y1 y2 y3 y4 : Value) :
    Now S0 w0 (((((w.setCell ⟨g,0,none⟩ y0).setCell ⟨g,1,none⟩ y1).setCell ⟨g,2,none⟩ y2).setCell ⟨g,3,none⟩ y3).setCell ⟨g,4,none⟩ y4) (pre ++ Thing.cells g t #[y0,y1,y2,y3,y4] :: post) :=
  ((((h.set_ 0 y0).set_ 1 y1).set_ 2 y2).set_ 3 y3).set_ 4 y4
theorem wpList_copy_full {P : Program} {ops : Array Oper} {rest : List Oper} {o : Oper} {a : Act} {Q : Exit → Act → World → Prop} (hgd : o.guard = none) (d s : Operand) (dT : TypeId)
    (ho : o.op = .call { callee := .builtin .copy,args := #[d,s],argTypes := #[dT,dT] }) (elem : TypeId) (hu : P.underlying dT = some (.slice elem)) (hsz : (P.info? elem).map (·.size) = some 1)
    {g n c m B : Nat} {A : Option Addr} {xs news : List Value} (hN : Now S0 w0 w (pre ++ Thing.row elem 1 (.slice (some ⟨g,0,none⟩) n c) n xs :: post)) (hd : a.eval d = .slice (some ⟨g,0,none⟩) n c) (hs : a.eval s = .slice A n m)
    (hr : Reads w B 1 A n news) (h1 : ∀ u ∈ news,u.oneCell' = true)
    (h : ∀ w',Now S0 w0 w' (pre ++ Thing.row elem 1 (.slice (some ⟨g,0,none⟩) n c) n news :: post) → wpList P ops Q rest (a.put o.dst (goInt news.length)) w') : wpList P ops Q (o :: rest) a w := by
  have hnl : news.length = n := by have := hr.1;simpa using this
  obtain ⟨S,hO,hSb,h2⟩ := hN.at_
  obtain ⟨ho',hS⟩ := hO
  by_cases hn : n = 0
  · have e : news = xs := by
      have h3 : news = [] := List.eq_nil_of_length_eq_zero (by omega)
      have h4 : xs = [] := List.eq_nil_of_length_eq_zero (by have := ho'.1;omega)
      rw [h3,h4]
    subst e
    refine wpList_copy_nothing hgd d s dT dT ho elem hu hsz _ _ _ _ _ _ hd hs (by rw [hn];rfl) ?_
    have := h w hN
    rw [show news.length = 0 by omega] at this
    exact this
  · rcases ho'.2 with ⟨h3,_⟩ | ⟨g',cap,cur,hv,_,hh,hle,hmx,hsz',hx⟩
    · cases h3
    simp only [Value.slice.injEq,Option.some.injEq,Addr.mk.injEq,and_true,true_and] at hv
    obtain ⟨rfl,rfl⟩ := hv
    obtain ⟨ad,rfl,_,hc⟩ := hr.2 (by omega)
    refine wpList_copy_own hgd d s dT dT ho elem hu hsz g 0 n c ad n m hd hs cur elem hh news (by rw [hnl];exact (Nat.min_self n).symm) hc (by omega) h1 ?_
    refine h _ (h2 _ [Thing.row elem 1 (.slice (some ⟨g,0,none⟩) n c) n news] ⟨S,⟨S,fun _ => False,⟨⟨by omega, .inr ⟨g,c,_,rfl,Nat.zero_le _,setRow_heap w g _ _ elem _ hh,hle,hmx,by simp;omega,?_⟩⟩,hS⟩,fun _ h => h,fun _ _ h => h,fun _ => ⟨.inl,fun h => h.elim id False.elim⟩⟩,⟨rfl,rfl,rfl,by simp [World.setRow],fun k _ hk => setRow_other w g k _ (by rintro rfl;exact hk ((hS _).2 rfl))⟩,fun _ h => .inl h⟩)
    simp [List.take_left' hnl]
end
section
variable {P : Program}
theorem results_row_tmp {fn : Func} {p u : Tmp} {ty : TypeId} (h : fn.results = #[.cell p ty, .tmp u]) (tmps : Array Value) (w : World) (g : Nat) (t : TypeId) (cs : Array Value) (d : TypeDesc) (y : Value)
    (hp : tmps.getD p undef = .pointer (some ⟨g,0,none⟩)) (hq : tmps.getD u undef = y) (hg : Blk w g t cs)
    (hu : P.underlying ty = some d) (hd : (match d with | .struct _ | .array _ _ => true | _ => false) = true) (hi : (P.info? ty).map (·.size) = some cs.size) :
    (results fn tmps).run P w = .ok (.tuple #[.agg cs,y]) w := by
  rw [results_cell_tmp h,hp,hq]
  simp [asAddr,run_loadVar_row w g t ty cs (0,0) d hg hu hd hi,Result.andThen]
theorem results_row_cell {fn : Func} {p q : Tmp} {ty tq : TypeId} (h : fn.results = #[.cell p ty, .cell q tq]) (tmps : Array Value) (w : World) (g : Nat) (t : TypeId) (cs : Array Value) (d : TypeDesc) (g' : Nat) (y : Value)
    (hp : tmps.getD p undef = .pointer (some ⟨g,0,none⟩)) (hq : tmps.getD q undef = .pointer (some ⟨g',0,none⟩)) (hg : Blk w g t cs) (hy : (loadVar tq ⟨g',0,none⟩).run P w = .ok y w)
    (hu : P.underlying ty = some d) (hd : (match d with | .struct _ | .array _ _ => true | _ => false) = true) (hi : (P.info? ty).map (·.size) = some cs.size) :
    (results fn tmps).run P w = .ok (.tuple #[.agg cs,y]) w := by
  have hp' : tmps[p]?.getD undef = .pointer (some ⟨g,0,none⟩) := by simpa using hp
  have hq' : tmps[q]?.getD undef = .pointer (some ⟨g',0,none⟩) := by simpa using hq
  simp [results,h,hp',hq',asAddr,run_loadVar_row w g t ty cs (0,0) d hg hu hd hi,hy,Result.andThen]
end
end Go.Proofs.YtidacaihmjdmkaaGreat

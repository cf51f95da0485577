/- What the laws of this seat lean on, part 3. -/
import Derived.Shelf.Strings.Builder1
import Derived.Shelf.Strings.Builder2
import Derived.Shelf.Strings.BuilderF
import Derived.Shelf.Strings.BuilderK
import Derived.Shelf.Strings.Prefix
import Derived.Shelf.Bits.Mul64
import Derived.Shelf.Strings.Repeat
import Derived.Test.YtidacaihmjdmkaaGreatProg
import Derived.Orders
import Derived.Below
import Derived.Tactics
import Derived.Tactics2
import Derived.KernelRfl
import Derived.WalkKit
import Derived.Test.YtidacaihmjdmkaaGreatZK2
import Derived.Deep.RegionHeld3
import Derived.Deep.DeepCutAuto
set_option linter.unusedSimpArgs false
set_option linter.unusedVariables false
set_option maxRecDepth 100000
/-
  DERIVED: THE SHELF's CONTRACTS AT THIS DUMP, IN PLAIN WORDS (tools/lay-plain.mjs out of 'TryzShelf.lean', which tools/lay-shelf.mjs wrote): THE SAME DECLARATIONS UNDER THE SAME NAMES: 'import', 'namespace', 'open', 'def', 'theorem' AND NOTHING ELSE: no command of the shelf's: FOR A HAND-IN. Each laying: the table of numbers ('.._ren') and one theorem, a field a fact of the dump's own or the kernel's comparison; each contract: ONE APPLICATION.
-/
namespace Go.Proofs
open Go.Shelf
open Go.RowKit in
open Go.RowKit in
open Go.RowKit in
open Go.RowKit in
open Go.RowKit in
open Go.RowKit in
open Go.RowKit in
open Go.RowKit in
open Go.RowKit in
open Go.RowKit in
open Go.RowKit in
open Go.RowKit in
open Go.RowKit in
open Go.RowKit Go.Lib in
open Go.RowKit Go.Lib in
open Go.RowKit Go.Lib in
open Go.RowKit Go.Lib in
def Tryz.lays105_ren : Go.Shelf.Ren := ⟨fun | 105 => 153 | 212 => 172 | 99 => 173 | 165 => 174 | 166 => 175 | 170 => 176 | 169 => 177 | 263 => 188 | 264 => 189 | 206 => 190 | 240 => 191 | 241 => 192 | 276 => 197 | 277 => 198 | n => n,fun | 9 => 9 | 3 => 3 | 4 => 4 | 20 => 20 | 0 => 0 | 46 => 255 | 109 => 256 | 5 => 5 | 72 => 261 | 76 => 264 | 51 => 44 | 146 => 274 | 53 => 43 | 148 => 276 | 70 => 259 | 37 => 100 | 75 => 263 | 127 => 278 | 164 => 284 | 80 => 127 | n => n,fun | n => n⟩
theorem Tryz.lays105 : Go.Proofs.Lays.n105 Tryz.prog Tryz.lays105_ren := {
  mixed := by kernel_rfl
  f99 := Tryz.func173.trans (congrArg some (by kernel_rfl))
  f105 := Tryz.func153.trans (congrArg some (by kernel_rfl))
  f165 := Tryz.func174.trans (congrArg some (by kernel_rfl))
  f166 := Tryz.func175.trans (congrArg some (by kernel_rfl))
  f169 := Tryz.func177.trans (congrArg some (by kernel_rfl))
  f170 := Tryz.func176.trans (congrArg some (by kernel_rfl))
  f206 := Tryz.func190.trans (congrArg some (by kernel_rfl))
  f212 := Tryz.func172.trans (congrArg some (by kernel_rfl))
  f240 := Tryz.func191.trans (congrArg some (by kernel_rfl))
  f241 := Tryz.func192.trans (congrArg some (by kernel_rfl))
  f263 := Tryz.func188.trans (congrArg some (by kernel_rfl))
  f264 := Tryz.func189.trans (congrArg some (by kernel_rfl))
  f276 := Tryz.func197.trans (congrArg some (by kernel_rfl))
  f277 := Tryz.func198.trans (congrArg some (by kernel_rfl))
  t0 := Tryz.underlying0
  a0 := Tryz.isAgg0
  z0 := Tryz.sizeOf0
  v0 := Tryz.zeroValue0
  t3 := Tryz.underlying3
  a3 := Tryz.isAgg3
  z3 := Tryz.sizeOf3
  v3 := Tryz.zeroValue3
  t4 := Tryz.underlying4
  a4 := Tryz.isAgg4
  z4 := Tryz.sizeOf4
  v4 := Tryz.zeroValue4
  t5 := Tryz.underlying5
  a5 := Tryz.isAgg5
  z5 := Tryz.sizeOf5
  v5 := Tryz.zeroValue5
  t9 := Tryz.underlying9
  a9 := Tryz.isAgg9
  z9 := Tryz.sizeOf9
  v9 := Tryz.zeroValue9
  t20 := Tryz.underlying20
  a20 := Tryz.isAgg20
  z20 := Tryz.sizeOf20
  v20 := Tryz.zeroValue20
  t37 := Tryz.underlying100
  a37 := Tryz.isAgg100
  z37 := Tryz.sizeOf100
  v37 := Tryz.zeroValue100
  t46 := Tryz.underlying255
  a46 := Tryz.isAgg255
  z46 := Tryz.sizeOf255
  v46 := Tryz.zeroValue255
  t51 := Tryz.underlying44
  a51 := Tryz.isAgg44
  z51 := Tryz.sizeOf44
  v51 := Tryz.zeroValue44
  t53 := Tryz.underlying43
  a53 := Tryz.isAgg43
  z53 := Tryz.sizeOf43
  v53 := Tryz.zeroValue43
  t70 := Tryz.underlying259
  a70 := Tryz.isAgg259
  z70 := Tryz.sizeOf259
  v70 := Tryz.zeroValue259
  t72 := Tryz.underlying261
  a72 := Tryz.isAgg261
  z72 := Tryz.sizeOf261
  v72 := Tryz.zeroValue261
  t75 := Tryz.underlying263
  a75 := Tryz.isAgg263
  z75 := Tryz.sizeOf263
  v75 := Tryz.zeroValue263
  t76 := Tryz.underlying264
  a76 := Tryz.isAgg264
  z76 := Tryz.sizeOf264
  v76 := Tryz.zeroValue264
  t109 := Tryz.underlying256
  a109 := Tryz.isAgg256
  z109 := Tryz.sizeOf256
  v109 := Tryz.zeroValue256
  t127 := Tryz.underlying278
  a127 := Tryz.isAgg278
  z127 := Tryz.sizeOf278
  v127 := Tryz.zeroValue278
  t146 := Tryz.underlying274
  a146 := Tryz.isAgg274
  z146 := Tryz.sizeOf274
  v146 := Tryz.zeroValue274
  t148 := Tryz.underlying276
  a148 := Tryz.isAgg276
  z148 := Tryz.sizeOf276
  v148 := Tryz.zeroValue276
  t164 := Tryz.underlying284
  a164 := Tryz.isAgg284
  z164 := Tryz.sizeOf284
  v164 := Tryz.zeroValue284 }
theorem Tryz.Builder_Extra_105 : Builder.Extra Tryz.prog Tryz.lays105_ren := {
  sizeBuilder := by kernel_rfl
  liesBuilder := by kernel_rfl
  t5 := Tryz.underlying5
  a5 := Tryz.isAgg5
  z5 := Tryz.sizeOf5
  v5 := Tryz.zeroValue5
  infoByte := by kernel_rfl
  cellsByte := by kernel_rfl
  sizeByte := by kernel_rfl
  neB5 := by decide }
open Go.RowKit Go.Lib in
open Go.RowKit Go.Lib in
open Go.RowKit Go.Lib in
open Go.RowKit Go.Lib in
open Go.RowKit Go.Lib in
open Go.RowKit Go.Lib in
open Go.RowKit Go.Lib in
theorem Tryz.strings_Repeat (s : ByteArray) (c : Nat) (w : World) (hc : c ≤ 9223372036854775807) (hlen : s.size * c ≤ 140737488355328) :
    Calls Tryz.prog 153 #[.string s, .int .i64 c] w fun e w' => e = .returned (.string ⟨(Lib.repeatL s.data.toList c).toArray⟩) ∧ Below w.heap.size w w' := Any.strings_Repeat Tryz.lays105 Tryz.Builder_Extra_105 s c w hc hlen
end Go.Proofs
namespace Go.Proofs.YtidacaihmjdmkaaGreat
open Go.RowKit
def KUpon (P : Program) (R : World → World → Prop) (w : World) (v : Value) : Result Next → Prop
  | .ok (.value u) w' => u = v ∧ R w w'
  | .ok .skip w' => v = undef ∧ R w w'
  | .ok (.enter f args) w' => Calls P f args w' fun e w'' => e = .returned v ∧ R w w''
  | _ => False
def KGoal (P : Program) (ops : Array Oper) (R : World → World → Prop) (w1 : World) (o : Oper) (v : Value) (a : Act) : Prop :=
  if Region.wanted o (yielded ops a.tmps) = true then KUpon P R w1 v ((execOp a.eval o).run P w1) else v = undef
def YieldsK (P : Program) (ops : Array Oper) (R : World → World → Prop) (w : World) (o : Oper) (v : Value) (a : Act) : Prop :=
  ∀ w1,R w w1 → KGoal P ops R w1 o v a
structure Grow (R : World → World → Prop) : Prop where
  refl : ∀ w,R w w
  trans : ∀ a b c,R a b → R b c → R a c
section
variable {P : Program} {ops : Array Oper} {Q : Exit → Act → World → Prop} {md : Region.Mode} {R : World → World → Prop}
theorem YieldsK.mono (G : Grow R) {w w1 : World} {o : Oper} {v : Value} {a : Act} (h : YieldsK P ops R w o v a) (hw : R w w1) : YieldsK P ops R w1 o v a :=
  fun w2 h2 => h w2 (G.trans _ _ _ hw h2)
theorem YieldsK.of_same {w : World} {o : Oper} {v : Value} {a a' : Act} (hy : YieldsK P ops R w o v a) (he : execOp a'.eval o = execOp a.eval o)
    (hw : Region.wanted o (yielded ops a'.tmps) = Region.wanted o (yielded ops a.tmps)) : YieldsK P ops R w o v a' := by
  intro w1 h1
  have := hy w1 h1
  unfold KGoal at *
  rw [he,hw]
  exact this
theorem wpOp_of_K {i : Nat} {o : Oper} {v : Value} {a : Act} {w1 : World} (hi : ops[i]? = some o) (hy : KGoal P ops R w1 o v a) (G : Grow R)
    {K : Act → World → Prop} (h : ∀ w',R w1 w' → K (a.put o.dst v) w') : wpOp P ops Q i K a w1 := by
  unfold Go.wpOp
  simp only [hi]
  unfold KGoal at hy
  split
  · rename_i hw
    rw [if_pos hw] at hy
    refine .inl ?_
    unfold Oper.wp
    generalize (execOp a.eval o).run P w1 = r at *
    cases r with
    | ok n w' =>
      cases n <;> simp only [KUpon] at hy <;> simp only [Oper.upon]
      case value u => obtain ⟨rfl,hR⟩ := hy;exact h _ hR
      case skip => obtain ⟨rfl,hR⟩ := hy;exact h _ hR
      case enter f args => exact hy.mono fun e w'' ⟨he,hR⟩ => by subst he;exact h _ hR
    | halt x w' => simp only [KUpon] at hy
  · rename_i hw
    rw [if_neg hw] at hy
    subst hy
    exact h _ (G.refl _)
def wpAnyK (P : Program) (md : Region.Mode) (ops : Array Oper) (Q : Exit → Act → World → Prop) (R : World → World → Prop) (T : List Nat) : Nat → Array Bool → Act → World → Prop
  | 0,listed,a,w => Region.ready md ops listed = [] ∧ ∀ w1,R w w1 → Q .normal a w1
  | fuel + 1,listed,a,w => ∀ w1,R w w1 →
    (Region.ready md ops listed = [] → Q .normal a w1) ∧
    ∀ i ∈ Region.ready md ops listed,wpOp P ops Q i (fun a' w' => (i ∉ T → R w1 w') ∧ wpAnyK P md ops Q R T fuel (listed.setIfInBounds i true) a' w') a w1
theorem wpAnyK_mono (G : Grow R) {T : List Nat} : ∀ {fuel : Nat} {listed : Array Bool} {a : Act} {w w1 : World},wpAnyK P md ops Q R T fuel listed a w → R w w1 → wpAnyK P md ops Q R T fuel listed a w1
  | 0,_,_,_,_,h,hw => ⟨h.1,fun w2 h2 => h.2 w2 (G.trans _ _ _ hw h2)⟩
  | _ + 1,_,_,_,_,h,hw => fun w2 h2 => h w2 (G.trans _ _ _ hw h2)
theorem wpAny_of_K (G : Grow R) {T : List Nat} : ∀ (fuel : Nat) (listed : Array Bool) (a : Act) (w : World),wpAnyK P md ops Q R T fuel listed a w → wpAny P md ops Q fuel listed a w
  | 0,_,_,w,h => ⟨h.1,h.2 w (G.refl w)⟩
  | fuel + 1,_,_,w,h => ⟨(h w (G.refl w)).1,fun i hi => wpOp_mono (fun a' w' h' => wpAny_of_K G fuel _ a' w' h'.2) ((h w (G.refl w)).2 i hi)⟩
theorem wpOp_putK {j : Nat} {oi oj : Oper} {v : Value} (hj : ops[j]? = some oj) (hap : oi.apart ops oj = true)
    (hsi : ∀ cs b,oi.op ≠ .select cs b) (hsj : ∀ cs b,oj.op ≠ .select cs b)
    (hQ : ∀ c a w,Q (.panic c) (a.put oi.dst v) w → Q (.panic c) a w) {K : Act → World → Prop} {a : Act} {w : World}
    (h : wpOp P ops Q j K (a.put oi.dst v) w) :
    wpOp P ops Q j (fun a' w' => (∀ R w0,YieldsK P ops R w0 oi v a → YieldsK P ops R w0 oi v a') ∧ K (a'.put oi.dst v) w') a w := by
  obtain ⟨h1,h2,h3⟩ := Oper.apart_spec hap
  have keep : ∀ (a : Act) u R w0,YieldsK P ops R w0 oi v a → YieldsK P ops R w0 oi v (a.put oj.dst u) := fun a u R w0 hy =>
    hy.of_same (execOp_put oi hsi a oj.dst u h3) (wanted_put oi a oj.dst u h3)
  have keepD : ∀ d R w0,YieldsK P ops R w0 oi v a → YieldsK P ops R w0 oi v { a with defers := d :: a.defers } := fun d R w0 hy => hy.of_same rfl rfl
  unfold wpOp at *
  simp only [hj] at *
  rw [wanted_put oj a oi.dst v h1] at h
  split
  · rename_i hw
    simp only [hw,if_true] at h
    rcases h with h | ⟨hasks,hlets⟩
    case inr => exact .inr ⟨by unfold Oper.asks at *;rw [execOp_put oj hsj a oi.dst v h1] at hasks;exact hasks,hlets⟩
    refine .inl ?_
    unfold Oper.wp at *
    rw [execOp_put oj hsj a oi.dst v h1] at h
    generalize (execOp a.eval oj).run P w = r at *
    cases r with
    | ok n w' =>
      cases n <;> simp only [Oper.upon] at h ⊢
      case value u => exact ⟨keep a u,by rw [← Act.put_comm a v u h2];exact h⟩
      case skip => exact ⟨keep a _,by rw [← Act.put_comm a v undef h2];exact h⟩
      case defer d =>
        refine ⟨fun R w0 hy => keep _ _ _ _ (keepD d R w0 hy),?_⟩
        rw [← Act.put_comm _ v undef h2, ← Act.put_defers]
        exact h
      case enter f args =>
        refine Calls.mono h fun e w'' he => ?_
        cases e with
        | returned u => exact ⟨keep a u,by rw [← Act.put_comm a v u h2];exact he⟩
        | panicked c => exact hQ _ _ _ he
        | outgrown => exact he
      case row row args => exact Rows.mono h fun u w'' he => ⟨keep a u,by rw [← Act.put_comm a v u h2];exact he⟩
    | halt x w' =>
      cases x <;> simp only [Oper.upon] at h ⊢
      case panic u => exact hQ _ _ _ h
  · rename_i hw
    simp only [hw] at h
    exact ⟨keep a _,by rw [← Act.put_comm a v undef h2];exact h⟩
theorem wpAnyK_first (G : Grow R) {T : List Nat} {i : Nat} {oi : Oper} {v : Value} (hi : ops[i]? = some oi) (hsel : ∀ (j : Nat) (o : Oper) cs b,ops[j]? = some o → o.op ≠ .select cs b)
    (hQ : ∀ c a w,Q (.panic c) (a.put oi.dst v) w → Q (.panic c) a w) :
    ∀ (fuel : Nat) (listed : Array Bool) (a : Act) (w : World),
      (∀ j oj,ops[j]? = some oj → j ≠ i → listed.getD j true = false → (∀ e ∈ oj.after,Region.binds md e = true → e.on ≠ i) → oi.apart ops oj = true) →
      (∀ j oj,j ∈ T → ops[j]? = some oj → listed.getD j true = false → ∃ e ∈ oj.after,Region.binds md e = true ∧ e.on = i) →
      i ∈ Region.ready md ops listed → YieldsK P ops R w oi v a →
      wpAnyK P md ops Q R T fuel (listed.setIfInBounds i true) (a.put oi.dst v) w → wpAnyK P md ops Q R T (fuel + 1) listed a w := by
  intro fuel
  induction fuel with
  | zero =>
    intro listed a w _ _ hr hy H w1 hw1
    refine ⟨fun h => (by rw [h] at hr;cases hr),fun j hj => ?_⟩
    by_cases hji : j = i
    · subst hji;exact wpOp_of_K hi (hy w1 hw1) G fun w' hR => ⟨fun _ => hR,wpAnyK_mono G H (G.trans _ _ _ hw1 hR)⟩
    · have := ready_mono hj hji
      rw [H.1] at this
      cases this
  | succ fuel ih =>
    intro listed a w hfree hwait hr hy H w1 hw1
    refine ⟨fun h => (by rw [h] at hr;cases hr),fun j hj => ?_⟩
    by_cases hji : j = i
    · subst hji;exact wpOp_of_K hi (hy w1 hw1) G fun w' hR => ⟨fun _ => hR,wpAnyK_mono G H (G.trans _ _ _ hw1 hR)⟩
    · have h1 := (H w1 hw1).2 j (ready_mono hj hji)
      obtain ⟨hjun,oj,hoj,hall⟩ := mem_ready.1 hj
      have hnot : ∀ e ∈ oj.after,Region.binds md e = true → e.on ≠ i := fun e he hb heq => by
        have h1 := hall e he hb
        have h0 := (mem_ready.1 hr).1
        rw [heq] at h1
        rcases Nat.lt_or_ge i listed.size with h' | h'
        · simp [h'] at h0 h1;rw [h0] at h1;cases h1
        · simp [Array.getElem?_eq_none h'] at h1
      have h2 := wpOp_putK hoj (hfree j oj hoj hji hjun hnot) (fun cs b => hsel i oi cs b hi) (fun cs b => hsel j oj cs b hoj) hQ h1
      have hfree' : ∀ k ok,ops[k]? = some ok → k ≠ i → (listed.setIfInBounds j true).getD k true = false →
          (∀ e ∈ ok.after,Region.binds md e = true → e.on ≠ i) → oi.apart ops ok = true := fun k ok hk hki hun hno => by
        refine hfree k ok hk hki ?_ hno
        by_cases hjk : j = k
        · subst hjk;exact hjun
        · rw [getD_set_ne true hjk] at hun;exact hun
      have hjT : j ∉ T := fun hT => by
        obtain ⟨e,he,hb,hon⟩ := hwait j oj hT hoj hjun
        exact hnot e he hb hon
      have hwait' : ∀ k ok,k ∈ T → ops[k]? = some ok → (listed.setIfInBounds j true).getD k true = false → ∃ e ∈ ok.after,Region.binds md e = true ∧ e.on = i := fun k ok hk hok hun => by
        refine hwait k ok hk hok ?_
        by_cases hjk : j = k
        · subst hjk;exact hjun
        · rw [getD_set_ne true hjk] at hun;exact hun
      refine wpOp_mono (fun a' w' h3 => ⟨h3.2.1,ih (listed.setIfInBounds j true) a' w' hfree' hwait' (ready_mono hr (Ne.symm hji)) ((h3.1 R w hy).mono G (G.trans _ _ _ hw1 (h3.2.1 hjT))) ?_⟩) h2
      rw [Array.setIfInBounds_comm _ _ hji]
      exact h3.2.2
def Region.waitB (md : Region.Mode) (ops : Array Oper) (T : List Nat) (listed : Array Bool) (i : Nat) : Bool :=
  T.all fun j => listed.getD j true || match ops[j]? with
    | some oj => oj.after.any fun e => Region.binds md e && e.on == i
    | none => true
theorem Region.waitB_spec {ops : Array Oper} {md : Region.Mode} {T : List Nat} {listed : Array Bool} {i : Nat} (h : Region.waitB md ops T listed i = true) (j : Nat) (oj : Oper) (hj : j ∈ T) (ho : ops[j]? = some oj) (hun : listed.getD j true = false) :
    ∃ e ∈ oj.after,Region.binds md e = true ∧ e.on = i := by
  have h1 := List.all_eq_true.1 h j hj
  simp only [ho,hun,Bool.false_or] at h1
  obtain ⟨e,he,hb⟩ := Array.any_eq_true'.1 h1
  simp only [Bool.and_eq_true,beq_iff_eq] at hb
  exact ⟨e,he,hb.1,hb.2⟩
def Region.ordB (md : Region.Mode) (ops : Array Oper) (T : List Nat) : List (Nat × Bool) → Array Bool → Bool
  | [],listed => (Region.ready md ops listed).isEmpty
  | (i,true) :: l,listed => (Region.ready md ops listed).contains i && Region.free md ops listed i && Region.waitB md ops T listed i && Region.ordB md ops T l (listed.setIfInBounds i true)
  | (i,false) :: l,listed => decide (Region.ready md ops listed = [i]) && Region.ordB md ops T l (listed.setIfInBounds i true)
def wpOrd (P : Program) (ops : List Oper) (Q : Exit → Act → World → Prop) (R : World → World → Prop) (T : List Nat) : List (Nat × Bool) → Act → World → Prop
  | [],a,w => ∀ w1,R w w1 → Q .normal a w1
  | (i,true) :: l,a,w => ∃ o v,ops[i]? = some o ∧ YieldsK P ops.toArray R w o v a ∧ wpOrd P ops Q R T l (a.put o.dst v) w
  | (i,false) :: l,a,w => ∀ w1,R w w1 → wpOp P ops.toArray Q i (fun a' w' => (i ∉ T → R w1 w') ∧ wpOrd P ops Q R T l a' w') a w1
def Steady (Q : Exit → Act → World → Prop) : Prop := ∀ c (a : Act) d v w,Q (.panic c) (a.put d v) w → Q (.panic c) a w
theorem wpAnyK_ord (G : Grow R) {T : List Nat} {ops : List Oper} (hs : Region.noSelect ops.toArray = true) (hQ : Steady Q) : ∀ (l : List (Nat × Bool)) (listed : Array Bool) (a : Act) (w : World),
    Region.ordB md ops.toArray T l listed = true → wpOrd P ops Q R T l a w → wpAnyK P md ops.toArray Q R T l.length listed a w
  | [],listed,a,w,hB,h => ⟨by simpa [Region.ordB] using hB,h⟩
  | (i,true) :: l,listed,a,w,hB,h => by
    simp only [Region.ordB,Bool.and_eq_true] at hB
    obtain ⟨o,v,ho,hy,hK⟩ := h
    have ho' : ops.toArray[i]? = some o := by simpa using ho
    exact wpAnyK_first G ho' (Region.noSelect_spec hs) (fun c a w => hQ c a o.dst v w) l.length listed a w (Region.free_spec ho' hB.1.1.2) (fun j oj hj hoj hun => Region.waitB_spec hB.1.2 j oj hj hoj hun) (by simpa using hB.1.1.1) hy (wpAnyK_ord G hs hQ l _ _ _ hB.2 hK)
  | (i,false) :: l,listed,a,w,hB,h => by
    simp only [Region.ordB,Bool.and_eq_true,decide_eq_true_eq] at hB
    intro w1 hw1
    refine ⟨fun h0 => (by rw [hB.1] at h0;cases h0),fun j hj => ?_⟩
    rw [hB.1] at hj
    have : j = i := by simpa using hj
    subst this
    exact wpOp_mono (fun a' w' h' => ⟨h'.1,wpAnyK_ord G hs hQ l _ _ _ hB.2 h'.2⟩) (h w1 hw1)
theorem wp_region_ord (G : Grow R) (ord : List (Nat × Bool)) (T : List Nat) {id : Nat} {ops : List Oper} {a : Act} {w : World} (hm : P.follows .mixedOrders = true) (hs : Region.noSelect ops.toArray = true)
    (hl : ord.length = ops.length) (hB : Region.ordB .any ops.toArray T ord (Array.replicate ops.length false) = true) (hQ : Steady Q)
    (h : wpOrd P ops Q R T ord a w.drew) : (Code.region id ops.toArray true).wp P Q a w := by
  refine wp_region_any hm (wpAny_of_K G (T := T) _ _ _ _ ?_)
  have := wpAnyK_ord G hs hQ ord _ a _ hB h
  rw [hl] at this
  simpa using this
theorem wpOrd_take {ops : List Oper} {T : List Nat} {i : Nat} {l : List (Nat × Bool)} {a : Act} {w : World} {o : Oper} (v : Value) (hi : ops[i]? = some o)
    (hy : ∀ w1,R w w1 → KGoal P ops.toArray R w1 o v a) (h : wpOrd P ops Q R T l (a.put o.dst v) w) : wpOrd P ops Q R T ((i,true) :: l) a w := ⟨o,v,hi,hy,h⟩
theorem wpOrd_do {ops : List Oper} {T : List Nat} {i : Nat} {l : List (Nat × Bool)} {a : Act} {w : World} {o : Oper} (hi : ops[i]? = some o)
    (h : ∀ w1,R w w1 → ∀ K : Act → World → Prop,(∀ a' w',R w1 w' → wpOrd P ops Q R T l a' w' → K a' w') →
      if Region.wanted o (yielded ops.toArray a.tmps) = true then o.wp P a w1 K Q else K (a.put o.dst undef) w1) : wpOrd P ops Q R T ((i,false) :: l) a w := by
  intro w1 hw1
  have h' := h w1 hw1 (fun a' w' => R w1 w' ∧ wpOrd P ops Q R T l a' w') (fun a' w' hR hK => ⟨hR,hK⟩)
  have hi' : ops.toArray[i]? = some o := by simpa using hi
  refine wpOp_mono (fun a' w' (hh : R w1 w' ∧ wpOrd P ops Q R T l a' w') => ⟨fun _ => hh.1,hh.2⟩) ?_
  unfold wpOp
  simp only [hi']
  split
  · rename_i hw;rw [if_pos hw] at h';exact .inl h'
  · rename_i hw;rw [if_neg hw] at h';exact h'
theorem wpOrd_last {ops : List Oper} {T : List Nat} {i : Nat} {l : List (Nat × Bool)} {a : Act} {w : World} {o : Oper} (hi : ops[i]? = some o) (hT : i ∈ T)
    (h : ∀ w1,R w w1 → ∀ K : Act → World → Prop,(∀ a' w',wpOrd P ops Q R T l a' w' → K a' w') →
      if Region.wanted o (yielded ops.toArray a.tmps) = true then o.wp P a w1 K Q else K (a.put o.dst undef) w1) : wpOrd P ops Q R T ((i,false) :: l) a w := by
  intro w1 hw1
  have h' := h w1 hw1 (fun a' w' => wpOrd P ops Q R T l a' w') (fun a' w' hK => hK)
  have hi' : ops.toArray[i]? = some o := by simpa using hi
  refine wpOp_mono (fun a' w' (hh : wpOrd P ops Q R T l a' w') => ⟨fun hn => absurd hT hn,hh⟩) ?_
  unfold wpOp
  simp only [hi']
  split
  · rename_i hw;rw [if_pos hw] at h';exact .inl h'
  · rename_i hw;rw [if_neg hw] at h';exact h'
theorem wpOrd_done {ops : List Oper} {T : List Nat} {a : Act} {w : World} (h : ∀ w1,R w w1 → Q .normal a w1) : wpOrd P ops Q R T [] a w := h
end
def Newer (w w' : World) : Prop := Below w.heap.size w w'
theorem Newer.grow : Grow Newer := ⟨fun _ => Below.refl _ _,fun _ _ _ h h' => Below.trans h (h'.mono h.size)⟩
theorem Newer.refl (w : World) : Newer w w := Below.refl _ _
theorem Newer.trans {a b c : World} (h : Newer a b) (h' : Newer b c) : Newer a c := Newer.grow.trans _ _ _ h h'
theorem Newer.undrew {w v : World} (h : Newer w.drew v) : Newer w v := ⟨h.os,h.tape,h.output,h.size,h.block⟩
theorem Newer.drew {w v : World} (h : Newer w v) : Newer w v.drew := ⟨h.os,h.tape,h.output,h.size,h.block⟩
theorem Newer.alloc {w v : World} (h : Newer w v) (o : Obj) : Newer w (v.alloc o) := Below.alloc h h.size o
theorem sqN (w : World) : Newer w w := Newer.grow.refl w
theorem Newer.below {w v : World} (h : Newer w v) {B : Nat} (hB : B ≤ w.heap.size) : Below B w v := Below.mono h hB
attribute [go_sem] KUpon KGoal
end Go.Proofs.YtidacaihmjdmkaaGreat
namespace Go.Proofs.YtidacaihmjdmkaaGreat
open Go.RowKit
attribute [local go_sem high] run_mx run_mn
structure Rec where
  lsn : Int
  epoch : Int
  kind : Int
  ver : Int
  dl : Int
  id : ByteArray
  val : ByteArray
def Rec.value (r : Rec) : Value := .agg #[.int .u64 r.lsn, .int .u32 r.epoch, .int .i64 r.kind, .int .u64 r.ver, .int .u64 r.dl, .string r.id, .string r.val]
structure Rec.Fits (r : Rec) : Prop where
  lsn : 0 ≤ r.lsn ∧ r.lsn < 18446744073709551616
  epoch : 0 ≤ r.epoch ∧ r.epoch < 4294967296
  kind : -9223372036854775808 ≤ r.kind ∧ r.kind ≤ 9223372036854775807
  ver : 0 ≤ r.ver ∧ r.ver < 18446744073709551616
  dl : 0 ≤ r.dl ∧ r.dl < 18446744073709551616
  id : r.id.size ≤ 9223372036854775807
  val : r.val.size ≤ 9223372036854775807
def Rec.right (r : Rec) : Bool :=
  if (r.lsn == 0) = true then false
  else if (r.kind == 1) = true then okID r.id.data.toList && okValue r.val.data.toList
  else if (r.kind == 2) = true then okID r.id.data.toList && (r.val.toList.isEmpty && r.dl == 0)
  else if (r.kind == 3) = true then r.id.toList.isEmpty && (r.val.toList.isEmpty && (r.ver == 0 && decide (r.dl < 16)))
  else false
set_option maxRecDepth 100000 in
set_option maxHeartbeats 4000000 in
theorem Right_any (r : Rec) (hr : r.Fits) (w : World) : Calls Tryz.prog 94 #[r.value] w fun e w' => e = .returned (.bool r.right) ∧ Below w.heap.size w w' := by
  unfold Rec.value
  have hB : Below w.heap.size w (w.alloc (.cells #[.int .u64 r.lsn, .int .u32 r.epoch, .int .i64 r.kind, .int .u64 r.ver, .int .u64 r.dl, .string r.id, .string r.val] 46)) := (Below.refl _ _).alloc (Nat.le_refl _) _
  have hid := hr.id
  go_enter Tryz.func94,Tryz.ntmps94
  go_wp2_with (first
    | (go_at_call 147;refine (ID_any _ hid _).mono ?_;rintro e w' ⟨rfl,rfl⟩)
    | (go_at_call 148;refine (Value_any _ _).mono ?_;rintro e w' ⟨rfl,rfl⟩))
  all_goals
    go_ret
    refine ⟨?_,?_⟩
    · simp_all [Rec.right]
    · simp_all
theorem okID_size {s : ByteArray} (h : okID s.data.toList = true) : 1 ≤ s.size ∧ s.size ≤ 16 := by
  have hl : s.data.toList.length = s.size := by rw [Array.length_toList];rfl
  unfold okID at h
  rw [hl] at h
  simp at h
  omega
theorem okValue_size {s : ByteArray} (h : okValue s.data.toList = true) : s.size ≤ 64 := by
  have hl : s.data.toList.length = s.size := by rw [Array.length_toList];rfl
  unfold okValue at h
  rw [hl] at h
  simpa using h
theorem nil_size {s : ByteArray} (h : s.toList.isEmpty = true) : s.size = 0 := by
  rw [ByteArray.toList_eq,List.isEmpty_iff] at h
  have hl : s.data.toList.length = s.size := by rw [Array.length_toList];rfl
  rw [h] at hl
  exact hl.symm
theorem Rec.sizes {r : Rec} (h : r.right = true) : r.id.size ≤ 16 ∧ r.val.size ≤ 64 ∧ (1 ≤ r.kind ∧ r.kind ≤ 3) ∧ r.lsn ≠ 0 := by
  unfold Rec.right at h
  by_cases h0 : (r.lsn == 0) = true
  · rw [if_pos h0] at h;cases h
  rw [if_neg h0] at h
  have hz : r.lsn ≠ 0 := by simpa using h0
  by_cases h1 : (r.kind == 1) = true
  · rw [if_pos h1] at h
    simp only [Bool.and_eq_true] at h
    have := okID_size h.1
    have := okValue_size h.2
    have : r.kind = 1 := by simpa using h1
    exact ⟨by omega,by omega,by omega,hz⟩
  rw [if_neg h1] at h
  by_cases h2 : (r.kind == 2) = true
  · rw [if_pos h2] at h
    simp only [Bool.and_eq_true] at h
    have := okID_size h.1
    have := nil_size h.2.1
    have : r.kind = 2 := by simpa using h2
    exact ⟨by omega,by omega,by omega,hz⟩
  rw [if_neg h2] at h
  by_cases h3 : (r.kind == 3) = true
  · rw [if_pos h3] at h
    simp only [Bool.and_eq_true] at h
    have := nil_size h.1
    have := nil_size h.2.1
    have : r.kind = 3 := by simpa using h3
    exact ⟨by omega,by omega,by omega,hz⟩
  rw [if_neg h3] at h
  cases h
def Rec.three (r : Rec) : ByteArray := ⟨#[UInt8.ofNat r.kind.toNat,UInt8.ofNat r.id.size,UInt8.ofNat r.val.size]⟩
def Rec.head (r : Rec) : ByteArray := putB r.lsn 8 ++ putB r.epoch 4 ++ r.three ++ putB r.ver 8 ++ putB r.dl 8 ++ r.id ++ r.val
def zeroB (k : Nat) : ByteArray := ⟨(List.replicate k (0 : UInt8)).toArray⟩
def Rec.body (r : Rec) : ByteArray := r.head ++ zeroB (112 - r.head.size)
def Rec.sector (r : Rec) : ByteArray := r.body ++ putB (crcOf r.body.data.toList) 4 ++ putB r.lsn 8 ++ putB r.epoch 4
theorem zeroB_size (k : Nat) : (zeroB k).size = k := by show (List.replicate k (0 : UInt8)).toArray.size = k;simp
theorem Rec.head_size (r : Rec) : r.head.size = 31 + r.id.size + r.val.size := by
  unfold Rec.head
  simp only [ByteArray.size_append,putB_size]
  show 8 + 4 + 3 + 8 + 8 + r.id.size + r.val.size = _
  omega
theorem Rec.body_size {r : Rec} (h : r.right = true) : r.body.size = 112 := by
  have := r.head_size
  have := Rec.sizes h
  unfold Rec.body
  rw [ByteArray.size_append,zeroB_size];omega
theorem Rec.sector_size {r : Rec} (h : r.right = true) : r.sector.size = 128 := by
  unfold Rec.sector
  simp only [ByteArray.size_append,putB_size,Rec.body_size h]
theorem three_blk (w : World) (a b c : Int) (ha : 0 ≤ a ∧ a ≤ 255) (hb : 0 ≤ b ∧ b ≤ 255) (hc : 0 ≤ c ∧ c ≤ 255) : ByteBlk (w.alloc (.cells #[.int .u8 a, .int .u8 b, .int .u8 c] 5)) w.heap.size [UInt8.ofNat a.toNat,UInt8.ofNat b.toNat,UInt8.ofNat c.toNat] := by
  have hv : ∀ x : Int,0 ≤ x ∧ x ≤ 255 → ((UInt8.ofNat x.toNat).toNat : Int) = x := fun x hx => by
    rw [UInt8.toNat_ofNat',Nat.mod_eq_of_lt (by omega)];omega
  have h := Blk.new w 5 #[.int .u8 a, .int .u8 b, .int .u8 c]
  refine ⟨fun j hj => ?_,fun j _ => h.frozen j⟩
  rw [h.cell]
  have hj : j < 3 := hj
  match j,hj with
  | 0,_ => show some (Value.int .u8 a) = some (.int .u8 ((UInt8.ofNat a.toNat).toNat : Int));rw [hv a ha]
  | 1,_ => show some (Value.int .u8 b) = some (.int .u8 ((UInt8.ofNat b.toNat).toNat : Int));rw [hv b hb]
  | 2,_ => show some (Value.int .u8 c) = some (.int .u8 ((UInt8.ofNat c.toNat).toNat : Int));rw [hv c hc]
theorem conv_threeN (u : World) (x y z : Int) (hx : 0 ≤ x ∧ x ≤ 255) (hy : 0 ≤ y ∧ y ≤ 255) (hz : 0 ≤ z ∧ z ≤ 255) (v : World) (hv : Newer (u.alloc (.cells #[.int .u8 x, .int .u8 y, .int .u8 z] 5)) v) :
    (convert 100 9 (.slice (some ⟨u.heap.size,0,none⟩) 3 3)).run Tryz.prog v = .ok (.string ⟨#[UInt8.ofNat x.toNat,UInt8.ofNat y.toNat,UInt8.ofNat z.toNat]⟩) v :=
  run_toString _ Tryz.underlying100 Tryz.underlying5 Tryz.underlying9 ((three_blk u x y z hx hy hz).of_block (hv.block u.heap.size (by simp))) rfl
theorem run_add (a b : ByteArray) (ha : a.size ≤ 1000) (hb : b.size ≤ 1000) (w : World) : (Op.stringOp .add a b).run Tryz.prog w = .ok (.string (a ++ b)) w := by
  rw [run_string_add_sum];omega
theorem Repeat_zeros (k : Nat) (hk : k ≤ 112) (w : World) : Calls Tryz.prog 153 #[.string (ByteArray.mk #[0]), .int .i64 k] w fun e w' => e = .returned (.string (zeroB k)) ∧ Below w.heap.size w w' := by
  have e : (⟨(Lib.repeatL (ByteArray.mk #[0]).data.toList k).toArray⟩ : ByteArray) = zeroB k := by
    have : ∀ k,Lib.repeatL (ByteArray.mk #[0]).data.toList k = List.replicate k (0 : UInt8) := by
      intro k
      induction k with
      | zero => rfl
      | succ k ih => show [0] ++ Lib.repeatL _ k = _;rw [ih];rfl
    rw [this];rfl
  have h := Tryz.strings_Repeat (ByteArray.mk #[0]) k w (by omega) (by show 1 * k ≤ _;omega)
  rw [e] at h
  exact h
theorem keep7 {w' v : World} {b : Nat} {t : TypeId} {x0 x1 x2 x3 x4 x5 x6 : Value} (hb : Blk w' b t #[x0,x1,x2,x3,x4,x5,x6]) (hE : Below (b + 1) w' v) :
    v.cell? ⟨b,0,none⟩ = some x0 ∧ v.cell? ⟨b,1,none⟩ = some x1 ∧ v.cell? ⟨b,2,none⟩ = some x2 ∧ v.cell? ⟨b,3,none⟩ = some x3 ∧ v.cell? ⟨b,4,none⟩ = some x4 ∧ v.cell? ⟨b,5,none⟩ = some x5 ∧ v.cell? ⟨b,6,none⟩ = some x6 := by
  have h := hb.below hE (Nat.lt_succ_self b)
  exact ⟨h.cell 0,h.cell 1,h.cell 2,h.cell 3,h.cell 4,h.cell 5,h.cell 6⟩
theorem keep2 {w' v : World} {b : Nat} {t : TypeId} {x0 x1 x2 x3 x4 x5 x6 : Value} (hb : Blk w' b t #[x0,x1,x2,x3,x4,x5,x6]) (hE : Below (b + 1) w' v) :
    v.cell? ⟨b,0,none⟩ = some x0 ∧ v.cell? ⟨b,1,none⟩ = some x1 := ⟨(keep7 hb hE).1,(keep7 hb hE).2.1⟩
theorem PutN8 (n : Int) (hn : 0 ≤ n ∧ n < 18446744073709551616) (u : World) : Calls Tryz.prog 154 #[.int .u64 n, .int .i64 8] u fun e v => e = .returned (.string (putB n 8)) ∧ Newer u v := Put_any n 8 (by omega) hn u
theorem PutN4 (n : Int) (hn : 0 ≤ n ∧ n < 18446744073709551616) (u : World) : Calls Tryz.prog 154 #[.int .u64 n, .int .i64 4] u fun e v => e = .returned (.string (putB n 4)) ∧ Newer u v := Put_any n 4 (by omega) hn u
theorem SumN (s : ByteArray) (hs : s.size ≤ 1000) (u : World) : Calls Tryz.prog 155 #[.string s] u fun e v => e = .returned (.int .u32 (crcOf s.data.toList)) ∧ Newer u v := Sum_any s (by omega) u
set_option maxRecDepth 100000 in
set_option maxHeartbeats 4000000 in
theorem Encode_no (r : Rec) (hr : r.Fits) (hn : r.right = false) (w : World) : Calls Tryz.prog 116 #[r.value] w fun e w' => e = .returned (.tuple #[.string ⟨#[]⟩, .int .i64 5]) ∧ Below w.heap.size w w' := by
  have hR := Right_any r hr
  rw [hn] at hR
  unfold Rec.value at hR ⊢
  go_enter Tryz.func116,Tryz.ntmps116
  go_wp2_with (first | (go_at_call 94;with_reducible refine (hR _).mono ?_;rintro e w' ⟨rfl,hB⟩))
  go_ret2
  exact ⟨rfl,((Below.refl _ _).alloc (Nat.le_refl _) _).trans (hB.mono (by simp))⟩
set_option maxRecDepth 100000 in
set_option maxHeartbeats 4000000 in
theorem Encode_yes (r : Rec) (hr : r.Fits) (hn : r.right = true) (w : World) : Calls Tryz.prog 116 #[r.value] w fun e w' => e = .returned (.tuple #[.string r.sector, .int .i64 0]) ∧ Below w.heap.size w w' := by
  have hR := Right_any r hr
  rw [hn] at hR
  have hsz := Rec.sizes hn
  unfold Rec.value at hR ⊢
  go_enter Tryz.func116,Tryz.ntmps116
  go_upto_region 3 with (first | (go_at_call 94;with_reducible refine (hR _).mono ?_;rintro e w' ⟨rfl,hB⟩))
  have hbl := (Blk.new w 46 #[.int .u64 r.lsn, .int .u32 r.epoch, .int .i64 r.kind, .int .u64 r.ver, .int .u64 r.dl, .string r.id, .string r.val]).below hB (by simp)
  have hW : Below w.heap.size w w' := ((Below.refl _ _).alloc (Nat.le_refl _) _).trans (hB.mono (by simp))
  have hlt : w.heap.size < w'.heap.size := Nat.lt_of_lt_of_le (by simp) hB.size
  clear hB hR
  have hl1 := hr.lsn
  have hl2 : 0 ≤ r.epoch ∧ r.epoch < 18446744073709551616 := by have := hr.epoch;omega
  have hl3 := hr.ver
  have hl4 := hr.dl
  have hk1 : 0 ≤ r.kind ∧ r.kind ≤ 255 := by omega
  have hk2 : 0 ≤ (r.id.size : Int) ∧ (r.id.size : Int) ≤ 255 := by omega
  have hk3 : 0 ≤ (r.val.size : Int) ∧ (r.val.size : Int) ≤ 255 := by omega
  have hths : r.three.size = 3 := rfl
  have g1 := run_add (putB r.lsn 8) (putB r.epoch 4) (by rw [putB_size];omega) (by rw [putB_size];omega)
  have g2 := run_add (putB r.lsn 8 ++ putB r.epoch 4) r.three (by simp only [ByteArray.size_append,putB_size];omega) (by omega)
  have g3 := run_add (putB r.lsn 8 ++ putB r.epoch 4 ++ r.three) (putB r.ver 8) (by simp only [ByteArray.size_append,putB_size,hths];omega) (by rw [putB_size];omega)
  have g4 := run_add (putB r.lsn 8 ++ putB r.epoch 4 ++ r.three ++ putB r.ver 8) (putB r.dl 8) (by simp only [ByteArray.size_append,putB_size,hths];omega) (by rw [putB_size];omega)
  have g5 := run_add (putB r.lsn 8 ++ putB r.epoch 4 ++ r.three ++ putB r.ver 8 ++ putB r.dl 8) r.id (by simp only [ByteArray.size_append,putB_size,hths];omega) (by omega)
  have g6 := run_add (putB r.lsn 8 ++ putB r.epoch 4 ++ r.three ++ putB r.ver 8 ++ putB r.dl 8 ++ r.id) r.val (by simp only [ByteArray.size_append,putB_size,hths];omega) (by omega)
  have hhs := r.head_size
  have hwe : IntKind.u64.wrap r.epoch = r.epoch := by rw [IntKind.wrap_u64];omega
  have hwk : IntKind.u8.wrap r.kind = r.kind := by rw [IntKind.wrap_u8];omega
  have hwi : IntKind.u8.wrap (r.id.size : Int) = r.id.size := by rw [IntKind.wrap_u8];omega
  have hwv : IntKind.u8.wrap (r.val.size : Int) = r.val.size := by rw [IntKind.wrap_u8];omega
  have hcell := fun w1 (h : Newer w'.drew w1) => keep7 (w' := w'.drew) hbl (h.mono hlt)
  refine wp_region_ord Newer.grow [(0,true),(1,true),(2,true),(3,true),(4,true),(5,true),(6,true),(7,true),(8,true),(9,true),(10,true),(11,true),(12,true),(13,true),(14,true),(15,true),(16,true),(17,true),(18,true),(22,true),(23,true),(24,true),(26,true),(27,true),(28,true),(30,true),(31,true),(33,true),(34,true),(19,false),(20,true),(21,true),(25,true),(29,true),(32,true),(35,true),(36,true)] [] (by kernel_rfl) (by kernel_rfl) rfl (by kernel_rfl) (by intro _ _ d _ _ h;cases d <;> exact h) ?_
  have hC : ∀ w1,Newer w'.drew w1 → w'.heap.size ≤ w1.heap.size := fun w1 h => h.size
  iterate 29
    (apply wpOrd_take
     · exact rfl
     · intro w1 h1
       (obtain ⟨c0,c1,c2,c3,c4,c5,c6⟩ := hcell w1 h1)
       go_simp
       first
         | with_reducible exact ⟨rfl,sqN _⟩
         | with_reducible exact PutN8 _ hl1 _ | with_reducible exact PutN4 _ hl2 _ | with_reducible exact PutN8 _ hl3 _ | with_reducible exact PutN8 _ hl4 _
     simp only [Act.put,sqA,sqB,sqC])
  refine wpOrd_do rfl ?_
  intro w2 h2 K hK
  go_simp
  have h3 : Newer w2 (w2.alloc (.cells #[.int .u8 r.kind, .int .u8 r.id.size, .int .u8 r.val.size] 5)) := (Below.refl _ _).alloc (Nat.le_refl _) _
  refine hK _ _ h3 ?_
  clear hK K
  have hcv := conv_threeN w2 r.kind r.id.size r.val.size hk1 hk2 hk3
  rw [show (⟨#[UInt8.ofNat r.kind.toNat,UInt8.ofNat (r.id.size : Int).toNat,UInt8.ofNat (r.val.size : Int).toNat]⟩ : ByteArray) = r.three from rfl] at hcv
  have hx := fun w1 (h : Newer _ w1) => Newer.grow.trans _ _ _ h2 (Newer.grow.trans _ _ _ h3 h)
  generalize w2.alloc (.cells #[.int .u8 r.kind, .int .u8 r.id.size, .int .u8 r.val.size] 5) = w3 at *
  iterate 7
    (apply wpOrd_take
     · exact rfl
     · intro w1 h1
       (have cv := hcv w1 h1)
       go_simp
       first
         | with_reducible exact ⟨rfl,sqN _⟩
     simp only [Act.put,sqA,sqB,sqC])
  refine wpOrd_done fun w4 h4 => ?_
  have h5 : Newer w'.drew w4 := hx w4 h4
  have hcell2 := fun w1 (h : Newer w4 w1) => keep2 (w' := w'.drew) hbl ((Newer.grow.trans _ _ _ h5 h).mono hlt)
  clear g1 g2 g3 g4 g5 g6 hcell hcv hwi hwv hwk
  rw [show putB r.lsn 8 ++ putB r.epoch 4 ++ r.three ++ putB r.ver 8 ++ putB r.dl 8 ++ r.id ++ r.val = r.head from rfl]
  have hB4 : Newer w w4 := Newer.trans hW h5.undrew
  have hrk : 112 - r.head.size ≤ 112 := by omega
  have hrv : (112 : Int) - (r.head.size : Int) = ((112 - r.head.size : Nat) : Int) := by omega
  have hra := run_add r.head (zeroB (112 - r.head.size)) (by omega) (by rw [zeroB_size];omega)
  rw [show r.head ++ zeroB (112 - r.head.size) = r.body from rfl] at hra
  have hh111 : (r.head.size : Int) ≤ 111 := by omega
  have hwr : wrap64 (112 - (r.head.size : Int)) = ((112 - r.head.size : Nat) : Int) := by unfold wrap64;omega
  have hcl := crcOf_lt r.body.data.toList
  have hbs := Rec.body_size hn
  have hwc : IntKind.u64.wrap (crcOf r.body.data.toList : Int) = (crcOf r.body.data.toList : Int) := by rw [IntKind.wrap_u64];omega
  have hlc : 0 ≤ (crcOf r.body.data.toList : Int) ∧ (crcOf r.body.data.toList : Int) < 18446744073709551616 := by omega
  have s1 := run_add r.body (putB (crcOf r.body.data.toList) 4) (by omega) (by rw [putB_size];omega)
  have s2 := run_add (r.body ++ putB (crcOf r.body.data.toList) 4) (putB r.lsn 8) (by simp only [ByteArray.size_append,putB_size];omega) (by rw [putB_size];omega)
  have s3 := run_add (r.body ++ putB (crcOf r.body.data.toList) 4 ++ putB r.lsn 8) (putB r.epoch 4) (by simp only [ByteArray.size_append,putB_size];omega) (by rw [putB_size];omega)
  rw [show r.body ++ putB (crcOf r.body.data.toList) 4 ++ putB r.lsn 8 ++ putB r.epoch 4 = r.sector from rfl] at s3
  have hSum := fun u => SumN r.body (by omega) u
  clear hx h2 h3 h5 hhs
  go_wp2_with (first
    | (go_at_call 153;with_reducible refine (Repeat_zeros _ hrk _).mono ?_;rintro e v ⟨rfl,hE2⟩))
  have hcell3 := fun w1 (h : Newer v.drew w1) => hcell2 w1 (Newer.trans hE2 h.undrew)
  refine wp_region_ord Newer.grow [(0,true),(1,true),(2,true),(3,true),(4,true),(5,true),(6,true),(7,true),(8,true),(9,true),(10,true),(11,true),(12,true),(13,true),(14,true),(15,true),(16,true)] [] (by kernel_rfl) (by kernel_rfl) rfl (by kernel_rfl) (by intro _ _ d _ _ h;cases d <;> exact h) ?_
  iterate 17
    (apply wpOrd_take
     · exact rfl
     · intro w1 h1
       (obtain ⟨c0,c1⟩ := hcell3 w1 h1)
       go_simp
       first
         | with_reducible exact ⟨rfl,sqN _⟩
         | with_reducible exact PutN8 _ hl1 _ | with_reducible exact PutN4 _ hl2 _ | with_reducible exact PutN4 _ hlc _ | with_reducible exact hSum _
     simp only [Act.put,sqA,sqB,sqC])
  refine wpOrd_done fun w6 h6 => ?_
  go_wp2_with fail
  go_ret2
  exact ⟨rfl,hB4.trans (Newer.trans hE2 h6.undrew)⟩
end Go.Proofs.YtidacaihmjdmkaaGreat

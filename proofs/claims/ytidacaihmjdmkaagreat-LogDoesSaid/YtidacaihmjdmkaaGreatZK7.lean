/- What the laws of this seat lean on, part 7. -/
import Derived.Test.YtidacaihmjdmkaaGreatZK5
import Derived.OrdersIn
import Derived.Deep.AppendLies
set_option linter.unusedSimpArgs false
set_option linter.unusedVariables false
set_option maxRecDepth 100000
namespace Go.Proofs.YtidacaihmjdmkaaGreat
open Go.RowKit
abbrev wideAt (r : Option Nat) : Fence := { Fence.wide with round := r }
theorem wpIn_op_of_wp {r : Option Nat} {n : Nat} {P : Program} {o : Oper} {a : Act} {w : World} {K : Act → World → Prop} {Q : Exit → Act → World → Prop} (hd : ∀ c,o.op ≠ .defer c) (h : o.wp P a w K Q) : o.wpIn (wideAt r) n P a w K Q := by
  refine ⟨fun _ _ => trivial,?_⟩
  unfold Oper.wp at h
  rw [Oper.semAt_eq _ _ _ hd]
  generalize (execOp a.eval o).run P w = x at *
  cases x with
  | ok x w' =>
    cases x <;> simp only [Oper.upon] at h <;> simp only [Oper.uponIn] <;>
      first
        | exact h
        | exact ⟨fun h' => by simp [wideAt,Fence.wide] at h',(callsIn_wide (n := n - 1)).2 h⟩
        | exact ⟨fun h' => by simp [wideAt,Fence.wide] at h',fun c cs _ => let ⟨v,w',r,s⟩ := h c cs; ⟨v,w',r,(StepsIn.of_steps s).mono fun m _ => fenced_wide P m⟩⟩
  | halt x w' => cases x <;> simp only [Oper.upon] at h <;> simp only [Oper.uponIn] <;> exact h
def noDefer (ops : Array Oper) : Bool := ops.all fun o => match o.op with
  | .defer _ => false
  | _ => true
theorem noDefer_spec {ops : Array Oper} (h : noDefer ops = true) (i : Nat) (o : Oper) (hi : ops[i]? = some o) : ∀ c,o.op ≠ .defer c := by
  intro c hc
  have h1 := (Array.all_eq_true'.1 h) o (Array.mem_of_getElem? hi)
  simp [hc] at h1
section
variable {r : Option Nat} {n : Nat} {P : Program} {ops : Array Oper} {Q : Exit → Act → World → Prop} {md : Region.Mode}
theorem wpIn_opAt_of_wp (hn : noDefer ops = true) (hL : ¬ LetsOut Q) {i : Nat} {K : Act → World → Prop} {a : Act} {w : World} (h : wpOp P ops Q i K a w) : wpOpIn (wideAt r) n P ops Q i K a w := by
  unfold wpOp at h
  unfold wpOpIn
  cases hi : ops[i]? with
  | none => simpa [hi] using h
  | some o =>
    simp only [hi] at h ⊢
    split
    · rename_i hw
      simp only [hw,if_true] at h
      rcases h with h | h
      · exact wpIn_op_of_wp (noDefer_spec hn i o hi) h
      · exact absurd h.2 hL
    · rename_i hw
      simp only [hw] at h
      exact ⟨fun _ _ => trivial,h⟩
theorem wpAnyIn_of_wpAny (hn : noDefer ops = true) (hL : ¬ LetsOut Q) : ∀ (fuel : Nat) (listed : Array Bool) (a : Act) (w : World),wpAny P md ops Q fuel listed a w → wpAnyIn (wideAt r) n P md ops Q fuel listed a w
  | 0,_,_,_,h => h
  | fuel + 1,_,_,_,h => ⟨h.1,fun i hi => wpIn_opAt_of_wp hn hL (wpOp_mono (fun a w h' => wpAnyIn_of_wpAny hn hL fuel _ a w h') (h.2 i hi))⟩
variable {R E : World → World → Prop}
def Post (C : Act → World → Prop) : Exit → Act → World → Prop
  | .normal,a,w => C a w
  | _,_,_ => False
theorem post_intro {C : Act → World → Prop} {a : Act} {w : World} (h : C a w) : Post C .normal a w := h
theorem post_lets {C : Act → World → Prop} : ¬ LetsOut (Post C) := fun ⟨_,_,h⟩ => h
theorem wpOpIn_monoQ {F : Fence} {C : Act → World → Prop} {Q : Exit → Act → World → Prop} {i : Nat} {K : Act → World → Prop} {a : Act} {w : World} (h : wpOpIn F n P ops (Post C) i K a w) : wpOpIn F n P ops Q i K a w := by
  unfold wpOpIn at *
  cases hi : ops[i]? with
  | none => simpa [hi] using h
  | some o =>
    simp only [hi] at h ⊢
    split
    · rename_i hw
      simp only [hw,if_true] at h
      refine ⟨h.1,?_⟩
      have h := h.2
      generalize (o.semAt F.round a.eval).run P w = r at *
      cases r with
      | ok x w' =>
        cases x <;> simp only [Oper.uponIn] at h ⊢ <;>
          first
            | exact h
            | exact ⟨h.1,CallsIn.mono h.2 (fun e w'' he => by cases e <;> first | exact he | exact absurd he post_lets | exact he.elim)⟩
            | exact ⟨h.1,RoundIn.mono h.2 (fun e w'' he => by cases e <;> first | exact he | exact absurd he post_lets | exact he.elim)⟩
      | halt x w' => cases x <;> simp only [Oper.uponIn] at h ⊢ <;> first | exact h | exact h.elim
    · rename_i hw
      simp only [hw] at h
      exact h
theorem wpAnyIn_monoQ {F : Fence} {C : Act → World → Prop} {Q : Exit → Act → World → Prop} (hC : ∀ a w,C a w → Q .normal a w) : ∀ (fuel : Nat) (listed : Array Bool) (a : Act) (w : World),wpAnyIn F n P md ops (Post C) fuel listed a w → wpAnyIn F n P md ops Q fuel listed a w
  | 0,_,_,_,h => ⟨h.1,hC _ _ h.2⟩
  | fuel + 1,_,_,_,h => ⟨fun e => hC _ _ (h.1 e),fun i hi => wpOpIn_monoQ (wpOpIn_mono (fun a w h' => wpAnyIn_monoQ hC fuel _ a w h') (h.2 i hi))⟩
theorem post_steady {C : Act → World → Prop} : Steady (Post C) := fun _ _ _ _ _ h => h
theorem wpIn_region_cut (C : Act → World → Prop) (G : Grow2 R E) (T : List Nat) (l : List (Nat × Bool)) (fuel : Nat) {id : Nat} {ops : List Oper} {a : Act} {w : World} (hm : P.follows .mixedOrders = true) (hs : Region.noSelect ops.toArray = true) (hn : noDefer ops.toArray = true)
    (hl : l.length + fuel = ops.length) (hB : Region.takesB .any ops.toArray T l (Array.replicate ops.length false) = true)
    (h : wpTakes P .any ops (Post C) R E T fuel l (Array.replicate ops.length false) a w.drew) (hC : ∀ a w,C a w → Q .normal a w) : (Code.region id ops.toArray true).wpIn (wideAt r) n P Q a w := by
  refine wpIn_region_any hm (wpAnyIn_monoQ hC _ _ _ _ (wpAnyIn_of_wpAny hn post_lets _ _ _ _ (wpAny_of_E G (T := T) _ _ _ _ ?_)))
  have := wpAnyE_takes G hs post_steady fuel l _ a _ hB h
  rw [hl] at this
  simpa using this
def Held (md : Region.Mode) (ops : Array Oper) (T D : List Nat) (i : Nat) (listed : Array Bool) : Prop :=
  (∀ j ∈ D,listed.getD j true = false ∧ ∃ oj,ops[j]? = some oj ∧ ∃ e ∈ oj.after,Region.binds md e = true ∧ (e.on = i ∨ e.on ∈ D)) ∧ ∀ j ∈ T,listed.getD j true = true ∨ j ∈ D
def heldB (md : Region.Mode) (ops : Array Oper) (T D : List Nat) (i : Nat) (listed : Array Bool) : Bool :=
  (D.all fun j => !(listed.getD j true) && match ops[j]? with
    | some oj => oj.after.any fun e => Region.binds md e && (e.on == i || D.contains e.on)
    | none => false) && T.all fun j => listed.getD j true || D.contains j
theorem heldB_spec {ops : Array Oper} {T D : List Nat} {i : Nat} {listed : Array Bool} (h : heldB md ops T D i listed = true) : Held md ops T D i listed := by
  simp only [heldB,Bool.and_eq_true,List.all_eq_true] at h
  refine ⟨fun j hj => ?_,fun j hj => ?_⟩
  · have h1 := h.1 j hj
    simp only [Bool.and_eq_true,Bool.not_eq_true'] at h1
    refine ⟨h1.1,?_⟩
    have h2 := h1.2
    cases ho : ops[j]? with
    | none => simp [ho] at h2
    | some oj =>
      simp only [ho] at h2
      obtain ⟨e,he,hb⟩ := Array.any_eq_true'.1 h2
      simp only [Bool.and_eq_true,Bool.or_eq_true,beq_iff_eq,List.contains_iff_mem] at hb
      exact ⟨oj,rfl,e,he,hb.1,hb.2⟩
  · have h1 := h.2 j hj
    simpa using h1
theorem wpAnyE_firstD (G : Grow2 R E) {Q : Exit → Act → World → Prop} {T : List Nat} (D : List Nat) {i : Nat} {oi : Oper} {v : Value} (hi : ops[i]? = some oi) (hsel : ∀ (j : Nat) (o : Oper) cs b,ops[j]? = some o → o.op ≠ .select cs b)
    (hQ : ∀ c a w,Q (.panic c) (a.put oi.dst v) w → Q (.panic c) a w) :
    ∀ (fuel : Nat) (listed : Array Bool) (a : Act) (w : World),
      (∀ j oj,ops[j]? = some oj → j ≠ i → listed.getD j true = false → (∀ e ∈ oj.after,Region.binds md e = true → e.on ≠ i) → oi.apart ops oj = true) →
      Held md ops T D i listed →
      i ∈ Region.ready md ops listed → YieldsE P ops R E false w oi v a →
      wpAnyE P md ops Q R E T fuel (listed.setIfInBounds i true) (a.put oi.dst v) w → wpAnyE P md ops Q R E T (fuel + 1) listed a w := by
  intro fuel
  induction fuel with
  | zero =>
    intro listed a w _ _ hr hy H w1 hw1
    refine ⟨fun h => (by rw [h] at hr;cases hr),fun j hj => ?_⟩
    by_cases hji : j = i
    · subst hji;exact wpOp_of_K hi (hy w1 (.inr (G.sub _ _ hw1))) G.small fun w' hR => ⟨fun _ => G.sub _ _ hR,wpAnyE_mono G H (G.small.trans _ _ _ hw1 hR)⟩
    · have := ready_mono hj hji
      rw [H.1] at this
      cases this
  | succ fuel ih =>
    intro listed a w hfree hwait hr hy H w1 hw1
    refine ⟨fun h => (by rw [h] at hr;cases hr),fun j hj => ?_⟩
    by_cases hji : j = i
    · subst hji;exact wpOp_of_K hi (hy w1 (.inr (G.sub _ _ hw1))) G.small fun w' hR => ⟨fun _ => G.sub _ _ hR,wpAnyE_mono G H (G.small.trans _ _ _ hw1 hR)⟩
    · have h1 := (H w1 hw1).2 j (ready_mono hj hji)
      obtain ⟨hjun,oj,hoj,hall⟩ := mem_ready.1 hj
      have hiun : listed.getD i true = false := (mem_ready.1 hr).1
      have hoff : ∀ k,k = i ∨ k ∈ D → listed.getD k true = false := fun k hk => by
        rcases hk with rfl | hk
        · exact hiun
        · exact (hwait.1 k hk).1
      have hnotk : ∀ e ∈ oj.after,Region.binds md e = true → ¬ (e.on = i ∨ e.on ∈ D) := fun e he hb heq => by
        have h1 := hall e he hb
        have h0 := hoff _ heq
        rcases Nat.lt_or_ge e.on listed.size with h' | h'
        · simp [h'] at h0 h1;rw [h0] at h1;cases h1
        · simp [Array.getElem?_eq_none h'] at h1
      have hnot : ∀ e ∈ oj.after,Region.binds md e = true → e.on ≠ i := fun e he hb heq => hnotk e he hb (.inl heq)
      have hjD : j ∉ D := fun hjD => by
        obtain ⟨_,oj',ho',e,he,hb,hor⟩ := hwait.1 j hjD
        rw [hoj] at ho'
        cases ho'
        exact hnotk e he hb hor
      have h2 := wpOp_putE (R := R) (E := E) (p := false) hoj (hfree j oj hoj hji hjun hnot) (fun cs b => hsel i oi cs b hi) (fun cs b => hsel j oj cs b hoj) hQ h1
      have hun' : ∀ k,(listed.setIfInBounds j true).getD k true = false → listed.getD k true = false := fun k hun => by
        by_cases hjk : j = k
        · subst hjk;exact hjun
        · rw [getD_set_ne true hjk] at hun;exact hun
      have hfree' : ∀ k ok,ops[k]? = some ok → k ≠ i → (listed.setIfInBounds j true).getD k true = false →
          (∀ e ∈ ok.after,Region.binds md e = true → e.on ≠ i) → oi.apart ops ok = true := fun k ok hk hki hun hno => hfree k ok hk hki (hun' k hun) hno
      have hwait' : Held md ops T D i (listed.setIfInBounds j true) := by
        refine ⟨fun k hk => ⟨?_,(hwait.1 k hk).2⟩,fun k hk => ?_⟩
        · rw [getD_set_ne true (fun e => hjD (by rw [e];exact hk))]
          exact (hwait.1 k hk).1
        · rcases hwait.2 k hk with h | h
          · by_cases hjk : j = k
            · subst hjk;rw [h] at hjun;cases hjun
            · rw [getD_set_ne true hjk];exact .inl h
          · exact .inr h
      have hjT : j ∉ T := fun hT => by
        rcases hwait.2 j hT with h | h
        · rw [h] at hjun;cases hjun
        · exact hjD h
      refine wpOp_mono (fun a' w' h3 => ⟨h3.2.1,ih (listed.setIfInBounds j true) a' w' hfree' hwait' (ready_mono hr (Ne.symm hji)) ((h3.1 w hy).mono G (.inr (G.big.trans _ _ _ (G.sub _ _ hw1) (h3.2.1 hjT)))) ?_⟩) h2
      rw [Array.setIfInBounds_comm _ _ hji]
      exact h3.2.2
theorem wpAnyE_takeD (G : Grow2 R E) {Q : Exit → Act → World → Prop} {T : List Nat} {ops : List Oper} {fuel : Nat} {listed : Array Bool} {a : Act} {w : World} (i : Nat) (D : List Nat) {o : Oper} {v : Value} (hs : Region.noSelect ops.toArray = true) (hQ : Steady Q) (hi : ops[i]? = some o)
    (hB : ((Region.ready md ops.toArray listed).contains i && Region.free md ops.toArray listed i && heldB md ops.toArray T D i listed) = true)
    (hy : ∀ w1,R w w1 → KGoal P ops.toArray E w1 o v a) (h : wpAnyE P md ops.toArray Q R E T fuel (listed.setIfInBounds i true) (a.put o.dst v) w) : wpAnyE P md ops.toArray Q R E T (fuel + 1) listed a w := by
  simp only [Bool.and_eq_true] at hB
  have ho' : ops.toArray[i]? = some o := by simpa using hi
  exact wpAnyE_firstD G D ho' (Region.noSelect_spec hs) (fun c a w => hQ c a o.dst v w) fuel listed a w (Region.free_spec ho' hB.1.2) (heldB_spec hB.2) (by simpa using hB.1.1) (fun w1 h1 => hy w1 (h1.resolve_left (by simp))) h
theorem wpOp_monoQ {C : Act → World → Prop} {Q : Exit → Act → World → Prop} {i : Nat} {K : Act → World → Prop} {a : Act} {w : World} (h : wpOp P ops (Post C) i K a w) : wpOp P ops Q i K a w := by
  unfold wpOp at *
  cases hi : ops[i]? with
  | none => simpa [hi] using h
  | some o =>
    simp only [hi] at h ⊢
    split
    · rename_i hw
      simp only [hw,if_true] at h
      rcases h with h | h
      · refine .inl ?_
        unfold Oper.wp at *
        generalize (execOp a.eval o).run P w = r at *
        cases r with
        | ok x w' =>
          cases x <;> simp only [Oper.upon] at h ⊢ <;>
            first
              | exact h
              | exact Calls.mono h (fun e w'' he => by cases e <;> first | exact he | exact absurd he post_lets | exact he.elim)
        | halt x w' => cases x <;> simp only [Oper.upon] at h ⊢ <;> first | exact h | exact h.elim
      · exact absurd h.2 post_lets
    · rename_i hw
      simp only [hw] at h
      exact h
theorem wpAny_monoQ {C : Act → World → Prop} {Q : Exit → Act → World → Prop} (hC : ∀ a w,C a w → Q .normal a w) : ∀ (fuel : Nat) (listed : Array Bool) (a : Act) (w : World),wpAny P md ops (Post C) fuel listed a w → wpAny P md ops Q fuel listed a w
  | 0,_,_,_,h => ⟨h.1,hC _ _ h.2⟩
  | fuel + 1,_,_,_,h => ⟨fun e => hC _ _ (h.1 e),fun i hi => wpOp_monoQ (wpOp_mono (fun a w h' => wpAny_monoQ hC fuel _ a w h') (h.2 i hi))⟩
theorem wp_region_ordN (G : Grow R) (ord : List (Nat × Bool)) (T : List Nat) {id : Nat} {ops : List Oper} {a : Act} {w : World} (hm : P.follows .mixedOrders = true) (hs : Region.noSelect ops.toArray = true)
    (hl : ord.length = ops.length) (hB : Region.ordB .any ops.toArray T ord (Array.replicate ops.length false) = true)
    (h : wpOrd P ops (Post (Q .normal)) R T ord a w.drew) : (Code.region id ops.toArray true).wp P Q a w := by
  refine wp_region_any hm (wpAny_monoQ (fun _ _ h => h) _ _ _ _ (wpAny_of_K G (T := T) _ _ _ _ ?_))
  have := wpAnyK_ord G hs post_steady ord _ a _ hB h
  rw [hl] at this
  simpa using this
theorem wp_region_takesN (G : Grow2 R E) (T : List Nat) (l : List (Nat × Bool)) (fuel : Nat) {id : Nat} {ops : List Oper} {a : Act} {w : World} (hm : P.follows .mixedOrders = true) (hs : Region.noSelect ops.toArray = true)
    (hl : l.length + fuel = ops.length) (hB : Region.takesB .any ops.toArray T l (Array.replicate ops.length false) = true)
    (h : wpTakes P .any ops (Post (Q .normal)) R E T fuel l (Array.replicate ops.length false) a w.drew) : (Code.region id ops.toArray true).wp P Q a w := by
  refine wp_region_any hm (wpAny_monoQ (fun _ _ h => h) _ _ _ _ (wpAny_of_E G (T := T) _ _ _ _ ?_))
  have := wpAnyE_takes G hs post_steady fuel l _ a _ hB h
  rw [hl] at this
  simpa using this
theorem wpAnyE_tail {T : List Nat} {fuel : Nat} {listed : Array Bool} {a : Act} {w : World} (listed0 : Array Bool) (fuel0 : Nat) (C : Act → World → Prop) (h0 : ∀ a w,C a w → wpAnyE P md ops Q R E T fuel0 listed0 a w)
    (h : (∀ listed a w,listed = listed0 → C a w → wpAnyE P md ops Q R E T fuel0 listed a w) → wpAnyE P md ops Q R E T fuel listed a w) : wpAnyE P md ops Q R E T fuel listed a w := h fun _ a w e => by subst e;exact h0 a w
theorem Grow2.and {R1 R2 E : World → World → Prop} (G : Grow2 R1 E) (H : Grow2 R2 E) : Grow2 (fun a b => R1 a b ∧ R2 a b) E :=
  ⟨⟨fun w => ⟨G.big.refl w,H.big.refl w⟩,fun a b c h h' => ⟨G.big.trans _ _ _ h.1 h'.1,H.big.trans _ _ _ h.2 h'.2⟩⟩,G.small,fun a b h => ⟨G.sub _ _ h,H.sub _ _ h⟩⟩
theorem wp_app_now {K : Act → World → Prop} {o : Oper} {a : Act} (s x : Operand) (t e : TypeId) (ho : o.op = .call { callee := .builtin .append,args := #[s,x],argTypes := #[t,t] }) (ht : P.underlying t = some (.slice e)) {i : TypeInfo} {z : Value} {bytes : Nat}
    (hi : P.info? e = some i) (hz : i.zero = some z) (hsize : i.size = 1) (hby : i.bytes = bytes) (hzs : z.cells.size = 1) {S0 : Nat → Prop} {w0 w : World} {pre post : List Thing} {v u : Value} {N kb : Nat} {xs : List Value}
    (hS : Now S0 w0 w (pre ++ Thing.row e 1 v N xs :: post)) (hb : Blk w kb e #[u]) (hs : a.eval s = v) (hx : a.eval x = .slice (some ⟨kb,0,none⟩) 1 1) (h1 : u.oneCell' = true) (h63 : N + 1 ≤ maxLen) (hbytes : (N + 1) * bytes ≤ 140737488355328)
    (h : ∀ g cap w',w.heap.size ≤ w'.heap.size → Now S0 w0 w' (pre ++ Thing.row e 1 (.slice (some ⟨g,0,none⟩) (N + 1) cap) (N + 1) (xs ++ [u]) :: post) → K (a.put o.dst (.slice (some ⟨g,0,none⟩) (N + 1) cap)) w') : o.wp P a w K Q := by
  refine wp_append_lies w s x t ho 0 e i z 1 bytes ht hi hz hsize hby hzs (by omega) v N xs hs (Now.row hS) ⟨kb,0,none⟩ 1 1 [u] hx rfl (fun j u' hu => World.news_of_block (cs := #[u]) hb j u' hu) (by simpa using h1) (by omega) h63 hbytes (Nat.zero_le _) w.heap.size rfl ?_
  intro g cap w' h2 h3 h4 _
  refine h g cap w' h3.size (Now.grown hS h2 h3 ?_)
  rcases h4 with h4 | rfl
  · exact .inl (by rw [h4];rfl)
  · exact .inr ⟨_,Nat.le_refl _,rfl⟩
end
end Go.Proofs.YtidacaihmjdmkaaGreat

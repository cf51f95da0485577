/- Things that lie in memory, each in blocks of its own: what a call on one of them leaves of the others. No program in sight. -/
import Derived.Test.YtofoneapfokdjaaMaps
namespace Go.Proofs.Ytofoneapfokdjaa
set_option linter.unusedSimpArgs false
set_option linter.unusedVariables false
open Go.RowKit

/-- A thing that lies in a world, in some blocks. -/
structure Thing where
  is : World → (Nat → Prop) → Prop
  keep : ∀ {w w' : World} {S T : Nat → Prop}, is w S → Fr T w w' → (∀ k, S k → ¬ T k) → is w' S
  lt : ∀ {w : World} {S : Nat → Prop} {k : Nat}, is w S → S k → k < w.heap.size

def Thing.none_ : Thing := ⟨fun _ S => ∀ k, ¬ S k, fun h _ _ => h, fun h hk => absurd hk (h _)⟩
/-- Both, in blocks apart. -/
def Thing.star (O P : Thing) : Thing where
  is w S := ∃ S1 S2, O.is w S1 ∧ P.is w S2 ∧ (∀ k, S1 k → ¬ S2 k) ∧ ∀ k, S k ↔ S1 k ∨ S2 k
  keep := by
    rintro w w' S T ⟨S1, S2, h1, h2, hd, hS⟩ hF hn
    exact ⟨S1, S2, O.keep h1 hF (fun k hk => hn k ((hS k).2 (.inl hk))), P.keep h2 hF (fun k hk => hn k ((hS k).2 (.inr hk))), hd, hS⟩
  lt := by
    rintro w S k ⟨S1, S2, h1, h2, hd, hS⟩ hk
    rcases (hS k).1 hk with h | h
    · exact O.lt h1 h
    · exact P.lt h2 h
def Thing.all : List Thing → Thing
  | [] => Thing.none_
  | O :: L => O.star (Thing.all L)
def Thing.ex {α : Type} (F : α → Thing) : Thing where
  is w S := ∃ a, (F a).is w S
  keep := by
    rintro w w' S T ⟨a, h⟩ hF hn
    exact ⟨a, (F a).keep h hF hn⟩
  lt := by
    rintro w S k ⟨a, h⟩ hk
    exact (F a).lt h hk

/-- A block of just these cells. -/
def Thing.cells (g : Nat) (t : TypeId) (cs : Array Value) : Thing where
  is w S := Blk w g t cs ∧ ∀ k, S k ↔ k = g
  keep := by
    rintro w w' S T ⟨h, hS⟩ hF hn
    exact ⟨hF.blk h (hn g ((hS g).2 rfl)), hS⟩
  lt := by
    rintro w S k ⟨h, hS⟩ hk
    rw [(hS k).1 hk]; exact h.lt
/-- A row of its own. -/
def Thing.row (t : TypeId) (size : Nat) (v : Value) (n : Nat) (xs : List Value) : Thing where
  is w S := w.ownsRow 0 t size v n xs ∧ ∀ k, S k ↔ v.ownBlock = some k
  keep := by
    rintro w w' S T ⟨h, hS⟩ hF hn
    exact ⟨hF.own h (fun k hk => hn k ((hS k).2 hk)), hS⟩
  lt := by
    rintro w S k ⟨h, hS⟩ hk
    exact (h.lt k ((hS k).1 hk)).2

theorem Thing.all_at (pre post : List Thing) (O : Thing) (w : World) (S : Nat → Prop) :
    (Thing.all (pre ++ O :: post)).is w S ↔ ∃ S1 S2, O.is w S1 ∧ (Thing.all (pre ++ post)).is w S2 ∧ (∀ k, S1 k → ¬ S2 k) ∧ ∀ k, S k ↔ S1 k ∨ S2 k := by
  induction pre generalizing S with
  | nil => exact Iff.rfl
  | cons P pre ih =>
    constructor
    · rintro ⟨A, R, hA, hR, hd, hS⟩
      obtain ⟨S1, S2, h1, h2, hd2, hS2⟩ := (ih R).1 hR
      refine ⟨S1, fun k => A k ∨ S2 k, h1, ⟨A, S2, hA, h2, fun k ha h2 => hd k ha ((hS2 k).2 (.inr h2)), fun k => Iff.rfl⟩, fun k h1 hk => ?_, fun k => ?_⟩
      · rcases hk with hk | hk
        · exact hd k hk ((hS2 k).2 (.inl h1))
        · exact hd2 k h1 hk
      · rw [hS k, hS2 k]
        constructor
        · rintro (h | h | h)
          · exact .inr (.inl h)
          · exact .inl h
          · exact .inr (.inr h)
        · rintro (h | h | h)
          · exact .inr (.inl h)
          · exact .inl h
          · exact .inr (.inr h)
    · rintro ⟨S1, R, h1, ⟨A, S2, hA, h2, hd2, hR⟩, hd, hS⟩
      refine ⟨A, fun k => S1 k ∨ S2 k, hA, (ih _).2 ⟨S1, S2, h1, h2, fun k h1 h2 => hd k h1 ((hR k).2 (.inr h2)), fun k => Iff.rfl⟩, fun k ha hk => ?_, fun k => ?_⟩
      · rcases hk with hk | hk
        · exact hd k hk ((hR k).2 (.inl ha))
        · exact hd2 k ha hk
      · rw [hS k, hR k]
        constructor
        · rintro (h | h | h)
          · exact .inr (.inl h)
          · exact .inl h
          · exact .inr (.inr h)
        · rintro (h | h | h)
          · exact .inr (.inl h)
          · exact .inl h
          · exact .inr (.inr h)

theorem Thing.all_app (L M : List Thing) (w : World) (S : Nat → Prop) :
    (Thing.all (L ++ M)).is w S ↔ ∃ S1 S2, (Thing.all L).is w S1 ∧ (Thing.all M).is w S2 ∧ (∀ k, S1 k → ¬ S2 k) ∧ ∀ k, S k ↔ S1 k ∨ S2 k := by
  induction L generalizing S with
  | nil =>
    constructor
    · intro h
      exact ⟨fun _ => False, S, fun _ h => h, h, fun _ h => h.elim, fun k => ⟨.inr, fun h => h.elim False.elim id⟩⟩
    · rintro ⟨S1, S2, h1, h2, hd, hS⟩
      have e : S = S2 := by
        funext k
        exact propext ((hS k).trans ⟨fun h => h.elim (fun h => absurd h (h1 k)) id, .inr⟩)
      rw [e]; exact h2
  | cons P L ih =>
    constructor
    · rintro ⟨A, R, hA, hR, hd, hS⟩
      obtain ⟨S1, S2, h1, h2, hd2, hS2⟩ := (ih R).1 hR
      refine ⟨fun k => A k ∨ S1 k, S2, ⟨A, S1, hA, h1, fun k ha h1 => hd k ha ((hS2 k).2 (.inl h1)), fun k => Iff.rfl⟩, h2, fun k hk h2 => ?_, fun k => ?_⟩
      · rcases hk with hk | hk
        · exact hd k hk ((hS2 k).2 (.inr h2))
        · exact hd2 k hk h2
      · rw [hS k, hS2 k, or_assoc]
    · rintro ⟨R, S2, ⟨A, S1, hA, h1, hd2, hR⟩, h2, hd, hS⟩
      refine ⟨A, fun k => S1 k ∨ S2 k, hA, (ih _).2 ⟨S1, S2, h1, h2, fun k h1 h2 => hd k ((hR k).2 (.inr h1)) h2, fun k => Iff.rfl⟩, fun k ha hk => ?_, fun k => ?_⟩
      · rcases hk with hk | hk
        · exact hd2 k ha hk
        · exact hd k ((hR k).2 (.inl ha)) hk
      · rw [hS k, hR k, or_assoc]

/-- In w there lie the things L, each in blocks of its own; since w0 nothing has turned but the blocks of S0, and new ones; and L lie in these. -/
def Now (S0 : Nat → Prop) (w0 w : World) (L : List Thing) : Prop := ∃ S, (Thing.all L).is w S ∧ Fr S0 w0 w ∧ ∀ k, S k → S0 k ∨ w0.heap.size ≤ k
/-- .. of a call's own: nothing that there was has turned. -/
abbrev Sep (W w : World) (L : List Thing) : Prop := Now (fun _ => False) W w L

section
variable {B : Nat} {w0 w w' : World} {L M pre post : List Thing} {O O' P : Thing} {S S' S0 : Nat → Prop}
theorem Now.start {S : Nat → Prop} {L : List Thing} (h : (Thing.all L).is w S) : Now S w w L := ⟨S, h, Fr.refl _ _, fun _ h => .inl h⟩
theorem Now.start1 (h : O.is w S) : Now S w w [O] := ⟨S, ⟨S, fun _ => False, h, fun _ h => h, fun _ _ h => h, fun _ => ⟨.inl, fun h => h.elim id False.elim⟩⟩, Fr.refl _ _, fun _ h => .inl h⟩
theorem Sep.start (W : World) : Sep W W [] := ⟨fun _ => False, fun _ h => h, Fr.refl _ _, fun _ h => h.elim⟩
theorem Now.fr (h : Now S0 w0 w L) : Fr S0 w0 w := by obtain ⟨_, _, h, _⟩ := h; exact h
theorem Sep.base (h : Sep w0 w L) : Below w0.heap.size w0 w := h.fr.below (Nat.le_refl _) (fun _ _ h => h.elim)
theorem Now.size (h : Now S0 w0 w L) : w0.heap.size ≤ w.heap.size := h.fr.size
theorem Now.one (h : Now S0 w0 w [O]) : ∃ S, O.is w S ∧ ∀ k, S k → S0 k ∨ w0.heap.size ≤ k := by
  obtain ⟨S, ⟨S1, S2, h1, h2, hd, hS⟩, hF, hk⟩ := h
  exact ⟨S1, h1, fun k h => hk k ((hS k).2 (.inl h))⟩
theorem Now.below (h : Now S0 w0 w L) (hb : Below w.heap.size w w') : Now S0 w0 w' L := by
  obtain ⟨S, h1, h2, h3⟩ := h
  have hf : Fr (fun k => w.heap.size ≤ k) w w' := Fr.of_below hb
  exact ⟨S, (Thing.all L).keep h1 hf (fun k hk hn => by have := (Thing.all L).lt h1 hk; omega), h2.trans hf (fun k hk hn => by have := h2.size; omega), h3⟩
theorem Now.drew (h : Now S0 w0 w L) : Now S0 w0 w.drew L := h.below ⟨rfl, rfl, rfl, Nat.le_refl _, fun _ _ => rfl⟩
theorem Now.drewN (h : Now S0 w0 w L) (n : Nat) : Now S0 w0 (w.drewN n) L := h.below ⟨rfl, rfl, rfl, Nat.le_refl _, fun _ _ => rfl⟩
theorem Now.alloc (h : Now S0 w0 w L) (o : Obj) : Now S0 w0 (w.alloc o) L := h.below ((Below.refl _ _).alloc (Nat.le_refl _) o)
/-- What turns some of the things leaves all others. -/
theorem Now.at_ (h : Now S0 w0 w (pre ++ O :: post)) : ∃ S, O.is w S ∧ (∀ k, S k → S0 k ∨ w0.heap.size ≤ k) ∧ ∀ w' M, Now S w w' M → Now S0 w0 w' (pre ++ (M ++ post)) := by
  obtain ⟨S, h1, h2, h3⟩ := h
  obtain ⟨S1, S2, ho, hr, hd, hS⟩ := (Thing.all_at pre post O w S).1 h1
  refine ⟨S1, ho, fun k hk => h3 k ((hS k).2 (.inl hk)), fun w' M hN => ?_⟩
  obtain ⟨S', hM, hF, hn⟩ := hN
  obtain ⟨A, C, hA, hC, hAC, hS2⟩ := (Thing.all_app pre post w S2).1 hr
  have hd2 : ∀ k, S' k → ¬ S2 k := fun k hk h2 => by
    rcases hn k hk with h | h
    · exact hd k h h2
    · have := (Thing.all _).lt hr h2; omega
  refine ⟨fun k => A k ∨ S' k ∨ C k, (Thing.all_app pre (M ++ post) w' _).2 ⟨A, fun k => S' k ∨ C k, (Thing.all pre).keep hA hF (fun k ha h1 => hd k h1 ((hS2 k).2 (.inl ha))), (Thing.all_app M post w' _).2 ⟨S', C, hM, (Thing.all post).keep hC hF (fun k hc h1 => hd k h1 ((hS2 k).2 (.inr hc))), fun k hk hc => hd2 k hk ((hS2 k).2 (.inr hc)), fun _ => Iff.rfl⟩, fun k ha hk => ?_, fun _ => Iff.rfl⟩, ?_, fun k hk => ?_⟩
  · rcases hk with hk | hk
    · exact hd2 k hk ((hS2 k).2 (.inl ha))
    · exact hAC k ha hk
  · exact h2.trans hF (fun k hk h1 => by
      rcases h3 k ((hS k).2 (.inl h1)) with h | h
      · exact h
      · omega)
  · rcases hk with hk | hk | hk
    · exact h3 k ((hS k).2 (.inr ((hS2 k).2 (.inl hk))))
    · rcases hn k hk with h | h
      · exact h3 k ((hS k).2 (.inl h))
      · exact .inr (Nat.le_trans h2.size h)
    · exact h3 k ((hS k).2 (.inr ((hS2 k).2 (.inr hk))))
theorem Now.get (h : Now S0 w0 w (pre ++ O :: post)) : ∃ S, O.is w S := by
  obtain ⟨S, h1, _⟩ := h.at_
  exact ⟨S, h1⟩
theorem Now.drop (h : Now S0 w0 w (pre ++ O :: post)) : Now S0 w0 w (pre ++ post) := by
  obtain ⟨S, h1, h2, h3⟩ := h
  obtain ⟨S1, S2, ho, hr, hd, hS⟩ := (Thing.all_at pre post O w S).1 h1
  exact ⟨S2, hr, h2, fun k hk => h3 k ((hS k).2 (.inr hk))⟩
/-- The same, seen otherwise: as one thing, as many. -/
theorem Now.imp (h : Now S0 w0 w (pre ++ O :: post)) (hi : ∀ S, O.is w S → (Thing.all M).is w S) : Now S0 w0 w (pre ++ (M ++ post)) := by
  obtain ⟨S, h1, _, h2⟩ := h.at_
  exact h2 w M ⟨S, hi S h1, Fr.refl _ _, fun _ h => .inl h⟩
theorem Now.fold (h : Now S0 w0 w (pre ++ (M ++ post))) (hi : ∀ S, (Thing.all M).is w S → O.is w S) : Now S0 w0 w (pre ++ O :: post) := by
  obtain ⟨S, h1, h2, h3⟩ := h
  obtain ⟨A, R, hA, hR, hd, hS⟩ := (Thing.all_app pre (M ++ post) w S).1 h1
  obtain ⟨X, C, hX, hC, hd2, hR2⟩ := (Thing.all_app M post w R).1 hR
  exact ⟨S, (Thing.all_app pre (O :: post) w S).2 ⟨A, R, hA, ⟨X, C, hi X hX, hC, hd2, hR2⟩, hd, hS⟩, h2, h3⟩
/-- A new thing, in new blocks. -/
theorem Now.push (h : Now S0 w0 w L) (hb : Below w.heap.size w w') (ho : O.is w' S') (hn : ∀ k, S' k → w.heap.size ≤ k) : Now S0 w0 w' (O :: L) := by
  obtain ⟨S, h1, h2, h3⟩ := h
  have hf : Fr (fun k => w.heap.size ≤ k) w w' := Fr.of_below hb
  refine ⟨fun k => S' k ∨ S k, ⟨S', S, ho, (Thing.all L).keep h1 hf (fun k hk hn => by have := (Thing.all L).lt h1 hk; omega), fun k hk hS => ?_, fun k => Iff.rfl⟩, h2.trans hf (fun k hk hn => by have := h2.size; omega), fun k hk => ?_⟩
  · have := (Thing.all L).lt h1 hS
    have := hn k hk
    omega
  · rcases hk with hk | hk
    · exact .inr (Nat.le_trans h2.size (hn k hk))
    · exact h3 k hk
theorem Now.pushCells (h : Now S0 w0 w L) (t : TypeId) (cs : Array Value) : Now S0 w0 (w.alloc (.cells cs t)) (Thing.cells w.heap.size t cs :: L) :=
  h.push ((Below.refl _ _).alloc (Nat.le_refl _) _) (S' := fun k => k = w.heap.size) ⟨Blk.new w t cs, fun _ => Iff.rfl⟩ (fun k hk => Nat.le_of_eq hk.symm)
/-- Things of a call's own, that it leaves. -/
theorem Now.pushAll (h : Now S0 w0 w L) (hN : Now (fun _ => False) w w' M) : Now S0 w0 w' (M ++ L) := by
  obtain ⟨S, h1, h2, h3⟩ := h
  obtain ⟨S', hM, hF, hn⟩ := hN
  have hge : ∀ k, S' k → w.heap.size ≤ k := fun k hk => (hn k hk).resolve_left id
  refine ⟨fun k => S' k ∨ S k, (Thing.all_app M L w' _).2 ⟨S', S, hM, (Thing.all L).keep h1 hF (fun _ _ h => h), fun k hk hS => by have := (Thing.all L).lt h1 hS; have := hge k hk; omega, fun _ => Iff.rfl⟩, h2.trans hF (fun _ _ h => h.elim), fun k hk => ?_⟩
  rcases hk with hk | hk
  · exact .inr (Nat.le_trans h2.size (hge k hk))
  · exact h3 k hk
theorem Now.pushRow (h : Now S0 w0 w L) (t : TypeId) (xs : Array Value) (hm : xs.size ≤ maxLen) : Now S0 w0 (w.alloc (.cells xs t)) (Thing.row t 1 (.slice (some ⟨w.heap.size, 0, none⟩) xs.size xs.size) xs.size xs.toList :: L) :=
  h.push ((Below.refl _ _).alloc (Nat.le_refl _) _) (S' := fun k => k = w.heap.size) ⟨World.ownsRow_lit (e := t) (base := 0) (size := 1) w xs xs.size (Nat.zero_le _) hm (by omega), fun k => by simp [Value.ownBlock, eq_comm]⟩ (fun k hk => Nat.le_of_eq hk.symm)
theorem Now.pushNil (h : Now S0 w0 w L) (t : TypeId) (size : Nat) : Now S0 w0 w (Thing.row t size (.slice none 0 0) 0 [] :: L) :=
  h.push (Below.refl _ _) (S' := fun _ => False) ⟨World.ownsRow_nil .., fun k => by simp [Value.ownBlock]⟩ (fun k hk => hk.elim)
theorem Now.swap (h : Now S0 w0 w (O :: P :: L)) : Now S0 w0 w (P :: O :: L) := by
  obtain ⟨S, h1, h2⟩ := h
  exact ⟨S, (Thing.all_at [P] L O w S).2 ((Thing.all_at [] (P :: L) O w S).1 h1), h2⟩
/-- The thing at a place to the front. -/
theorem Now.front (h : Now S0 w0 w (pre ++ O :: post)) : Now S0 w0 w (O :: (pre ++ post)) := by
  obtain ⟨S, h1, h2⟩ := h
  exact ⟨S, (Thing.all_at [] (pre ++ post) O w S).2 ((Thing.all_at pre post O w S).1 h1), h2⟩
theorem Now.back (h : Now S0 w0 w (O :: (pre ++ post))) : Now S0 w0 w (pre ++ O :: post) := by
  obtain ⟨S, h1, h2⟩ := h
  exact ⟨S, (Thing.all_at pre post O w S).2 ((Thing.all_at [] (pre ++ post) O w S).1 h1), h2⟩
theorem Thing.all_perm {L M : List Thing} (hp : L.Perm M) : ∀ (w : World) (S : Nat → Prop), (Thing.all L).is w S → (Thing.all M).is w S := by
  induction hp with
  | nil => exact fun _ _ h => h
  | cons O _ ih => rintro w S ⟨S1, S2, h1, h2, r⟩; exact ⟨S1, S2, h1, ih w S2 h2, r⟩
  | swap O P L => exact fun w S h => (Thing.all_at [O] L P w S).2 ((Thing.all_at [] (O :: L) P w S).1 h)
  | trans _ _ ih1 ih2 => exact fun w S h => ih2 w S (ih1 w S h)
theorem Now.perm (h : Now S0 w0 w L) (hp : L.Perm M) : Now S0 w0 w M := by
  obtain ⟨S, h1, h2⟩ := h
  exact ⟨S, Thing.all_perm hp w S h1, h2⟩
/-- Two of the things, apart from one another. -/
theorem Now.at2 (h : Now S0 w0 w (P :: (pre ++ O :: post))) : ∃ S1 S, P.is w S1 ∧ O.is w S ∧ (∀ k, S1 k → ¬ S k) ∧ ∀ w' M, Now S w w' M → Now S0 w0 w' (P :: (pre ++ (M ++ post))) := by
  obtain ⟨Sa, h1, h2, h3⟩ := h
  have h1' := h1
  obtain ⟨S1, R, hP, hR, hd, hS⟩ := h1
  obtain ⟨S, S2, ho, hr, hd2, hS2⟩ := (Thing.all_at pre post O w R).1 hR
  refine ⟨S1, S, hP, ho, fun k h1 h2 => hd k h1 ((hS2 k).2 (.inl h2)), fun w' M hN => ?_⟩
  have hPk : P.is w' S1 := P.keep hP hN.fr (fun k h1 h2 => hd k h1 ((hS2 k).2 (.inl h2)))
  have hrest : Now R w w (pre ++ O :: post) := Now.start hR
  obtain ⟨S', ho', _, h4⟩ := hrest.at_
  obtain ⟨T, hT, hTF, hTn⟩ := hN
  obtain ⟨X, C, hX, hC, hXC, hX2⟩ := (Thing.all_app pre post w S2).1 hr
  have hTd : ∀ k, T k → ¬ S2 k := fun k hk h2 => by
    rcases hTn k hk with h | h
    · exact hd2 k h h2
    · have := (Thing.all _).lt hr h2; omega
  have hT1 : ∀ k, S1 k → ¬ T k := fun k h1 hk => by
    rcases hTn k hk with h | h
    · exact hd k h1 ((hS2 k).2 (.inl h))
    · have := P.lt hP h1; omega
  refine ⟨fun k => S1 k ∨ X k ∨ T k ∨ C k, ⟨S1, fun k => X k ∨ T k ∨ C k, hPk, (Thing.all_app pre (M ++ post) w' _).2 ⟨X, fun k => T k ∨ C k, (Thing.all pre).keep hX hTF (fun k hx h1 => hd2 k h1 ((hX2 k).2 (.inl hx))), (Thing.all_app M post w' _).2 ⟨T, C, hT, (Thing.all post).keep hC hTF (fun k hc h1 => hd2 k h1 ((hX2 k).2 (.inr hc))), fun k hk hc => hTd k hk ((hX2 k).2 (.inr hc)), fun _ => Iff.rfl⟩, fun k hx hk => ?_, fun _ => Iff.rfl⟩, fun k h1 hk => ?_, fun _ => Iff.rfl⟩, ?_, fun k hk => ?_⟩
  · rcases hk with hk | hk
    · exact hTd k hk ((hX2 k).2 (.inl hx))
    · exact hXC k hx hk
  · rcases hk with hk | hk | hk
    · exact hd k h1 ((hS2 k).2 (.inr ((hX2 k).2 (.inl hk))))
    · exact hT1 k h1 hk
    · exact hd k h1 ((hS2 k).2 (.inr ((hX2 k).2 (.inr hk))))
  · exact h2.trans hTF (fun k hk h1 => by
      rcases h3 k ((hS k).2 (.inr ((hS2 k).2 (.inl h1)))) with h | h
      · exact h
      · omega)
  · rcases hk with hk | hk | hk | hk
    · exact h3 k ((hS k).2 (.inl hk))
    · exact h3 k ((hS k).2 (.inr ((hS2 k).2 (.inr ((hX2 k).2 (.inl hk))))))
    · rcases hTn k hk with h | h
      · exact h3 k ((hS k).2 (.inr ((hS2 k).2 (.inl h))))
      · exact .inr (Nat.le_trans h2.size h)
    · exact h3 k ((hS k).2 (.inr ((hS2 k).2 (.inr ((hX2 k).2 (.inr hk))))))
/-- A block's cells, and that they may be written. -/
theorem Now.blk {g : Nat} {t : TypeId} {cs : Array Value} (h : Now S0 w0 w (pre ++ Thing.cells g t cs :: post)) : Blk w g t cs := by
  obtain ⟨S, h1, _⟩ := h.at_
  exact h1.1
theorem Now.row {t : TypeId} {size n : Nat} {v : Value} {xs : List Value} (h : Now S0 w0 w (pre ++ Thing.row t size v n xs :: post)) : w.ownsRow 0 t size v n xs := by
  obtain ⟨S, h1, _⟩ := h.at_
  exact h1.1
/-- A store into a block. -/
theorem Now.set_ {g : Nat} {t : TypeId} {cs : Array Value} (h : Now S0 w0 w (pre ++ Thing.cells g t cs :: post)) (i : Nat) (u : Value) : Now S0 w0 (w.setCell ⟨g, i, none⟩ u) (pre ++ Thing.cells g t (cs.setIfInBounds i u) :: post) := by
  obtain ⟨S, h1, _, h2⟩ := h.at_
  exact h2 _ [Thing.cells g t (cs.setIfInBounds i u)] ⟨S, ⟨S, fun _ => False, ⟨h1.1.set_ i u, h1.2⟩, fun _ h => h, fun _ _ h => h, fun _ => ⟨.inl, fun h => h.elim id False.elim⟩⟩, (Fr.refl _ w).setCell (fun _ => (h1.2 g).2 rfl) u, fun _ h => .inl h⟩
/-- An append to a row. -/
theorem Now.grown {t t' : TypeId} {size n n' : Nat} {v v' : Value} {xs xs' : List Value} (h : Now S0 w0 w (pre ++ Thing.row t size v n xs :: post)) (ho : w'.ownsRow 0 t' size v' n' xs') (hg : w.grownBy w' v.ownBlock) (hn : v'.ownBlock = v.ownBlock ∨ ∃ q, w.heap.size ≤ q ∧ v'.ownBlock = some q) :
    Now S0 w0 w' (pre ++ Thing.row t' size v' n' xs' :: post) := by
  obtain ⟨S, h1, _, h2⟩ := h.at_
  refine h2 _ [Thing.row t' size v' n' xs'] ⟨fun k => v'.ownBlock = some k, ⟨fun k => v'.ownBlock = some k, fun _ => False, ⟨ho, fun _ => Iff.rfl⟩, fun _ h => h, fun _ _ h => h, fun _ => ⟨.inl, fun h => h.elim id False.elim⟩⟩, Fr.of_grown hg (fun k e => (h1.2 k).2 e), fun k hk => ?_⟩
  rcases hn with e | ⟨q, hq, e⟩
  · exact .inl ((h1.2 k).2 (e ▸ hk))
  · rw [e] at hk
    obtain rfl := Option.some.inj hk
    exact .inr hq
/-- A row is let go. -/
theorem Now.rowNil {t t' : TypeId} {size size' n : Nat} {v : Value} {xs : List Value} (h : Now S0 w0 w (pre ++ Thing.row t size v n xs :: post)) : Now S0 w0 w (pre ++ Thing.row t' size' (.slice none 0 0) 0 [] :: post) := by
  obtain ⟨S, h1, _, h2⟩ := h.at_
  exact h2 _ [Thing.row t' size' (.slice none 0 0) 0 []] ⟨fun _ => False, ⟨fun _ => False, fun _ => False, ⟨World.ownsRow_nil .., fun k => by simp [Value.ownBlock]⟩, fun _ h => h, fun _ _ h => h, fun _ => ⟨.inl, fun h => h.elim id id⟩⟩, Fr.refl _ _, fun _ h => h.elim⟩
/-- A store into a row. -/
theorem Now.rowSet {t : TypeId} {n c r : Nat} {xs : List Value} (h : Now S0 w0 w (pre ++ Thing.row t 1 (.slice (some ⟨r, 0, none⟩) n c) n xs :: post)) {q : Nat} (hq : q < n) (u : Value) :
    Now S0 w0 (w.setCell ⟨r, q, none⟩ u) (pre ++ Thing.row t 1 (.slice (some ⟨r, 0, none⟩) n c) n (xs.set q u) :: post) := by
  obtain ⟨S, h1, _, h2⟩ := h.at_
  have hr : w.ownsRow 0 t 1 (.slice (some ⟨r, 0, none⟩) n c) n xs := h1.1
  refine h2 _ [Thing.row t 1 (.slice (some ⟨r, 0, none⟩) n c) n (xs.set q u)] ⟨S, ⟨S, fun _ => False, ⟨?_, h1.2⟩, fun _ h => h, fun _ _ h => h, fun _ => ⟨.inl, fun h => h.elim id False.elim⟩⟩, (Fr.refl _ w).setCell (fun _ => (h1.2 r).2 rfl) u, fun _ h => .inl h⟩
  refine ⟨by rw [List.length_set]; exact hr.1, ?_⟩
  rcases hr.2 with ⟨h1, _⟩ | ⟨g, cap, cur, hv, hg, hh, hle, hm, hs, hx⟩
  · cases h1
  · simp only [Value.slice.injEq, Option.some.injEq, Addr.mk.injEq, and_true, true_and] at hv
    obtain ⟨rfl, rfl⟩ := hv
    have hb : Blk w r t cur := hh
    refine .inr ⟨r, c, cur.setIfInBounds q u, rfl, hg, hb.set_ q u, hle, hm, by simpa using hs, ?_⟩
    rw [← hx, Nat.mul_one]
    apply List.ext_getElem?
    intro j
    simp only [List.getElem?_take, List.getElem?_set, Array.getElem?_toList, Array.getElem?_setIfInBounds, List.length_take, Array.length_toList]
    by_cases hj : j < n
    · rw [if_pos hj, if_pos hj]
      by_cases e : q = j
      · rw [if_pos e, if_pos e, if_pos (by omega), if_pos (by omega)]
      · rw [if_neg e, if_neg e]
    · rw [if_neg hj, if_neg hj]
      rw [if_neg (by omega)]
theorem row_at {t : TypeId} {n c r : Nat} {xs : List Value} (h : w.ownsRow 0 t 1 (.slice (some ⟨r, 0, none⟩) n c) n xs) {q : Nat} (hq : q < n) : w.cell? ⟨r, q, none⟩ = xs[q]? ∧ w.frozen? ⟨r, q, none⟩ = false := by
  rcases h.2 with ⟨h1, _⟩ | ⟨g, cap, cur, hv, hg, hh, hle, hm, hs, hx⟩
  · cases h1
  · simp only [Value.slice.injEq, Option.some.injEq, Addr.mk.injEq, and_true, true_and] at hv
    obtain ⟨rfl, _⟩ := hv
    have hb : Blk w r t cur := hh
    refine ⟨?_, hb.frozen q⟩
    rw [hb.cell, ← hx, List.getElem?_take, if_pos (by omega)]
    simp
/-- A row that has cells lies at the head of a block. -/
theorem row_form {t : TypeId} {size n : Nat} {v : Value} {xs : List Value} (h : w.ownsRow 0 t size v n xs) (hn : 0 < n) : ∃ r c cur, v = .slice (some ⟨r, 0, none⟩) n c ∧ Blk w r t cur ∧ n * size ≤ cur.size ∧ cur.toList.take (n * size) = xs := by
  rcases h.2 with ⟨_, h0⟩ | ⟨g, cap, cur, hv, _, hh, hle, _, hs, hx⟩
  · omega
  · exact ⟨g, cap, cur, hv, hh, by rw [hs]; exact Nat.mul_le_mul_right size hle, hx⟩
end

/-- 'wpList_app1', the world's size under a letter (behind a store). -/
theorem wpList_app1s {P : Program} (w : World) {ops : Array Oper} {rest : List Oper} {o : Oper} {a : Act} {Q : Exit → Act → World → Prop} (hgd : o.guard = none) (s x : Operand) (t : TypeId)
    (ho : o.op = .call { callee := .builtin .append, args := #[s, x], argTypes := #[t, t] })
    (base : Nat) (e : TypeId) {i : TypeInfo} {z : Value} {bytes : Nat} (ht : P.underlying t = some (.slice e)) (hi : P.info? e = some i) (hz : i.zero = some z)
    (hsize : i.size = 1) (hby : i.bytes = bytes) (hzs : z.cells.size = 1)
    {v : Value} {n : Nat} {xs : List Value} {u : Value} (hown : w.ownsRow base e 1 v n xs) (hs : a.eval s = v) {H : Nat} (hH : w.heap.size = H) (hx : a.eval x = .slice (some ⟨H, 0, none⟩) 1 1) (h1 : u.oneCell' = true)
    (h63 : n + 1 ≤ maxLen) (hbytes : (n + 1) * bytes ≤ 140737488355328) (hbase : base ≤ w.heap.size)
    (h : ∀ v' w', w'.ownsRow base e 1 v' (n + 1) (xs ++ [u]) → w.grownBy w' v.ownBlock → (v'.ownBlock = v.ownBlock ∨ v'.ownBlock = some (w.heap.size + 1)) → wpList P ops Q rest (a.put o.dst v') w') : wpList P ops Q (o :: rest) a (w.alloc (.cells #[u] e)) :=
  wpList_app1 w hgd s x t ho base e ht hi hz hsize hby hzs hown hs (by rw [hH]; exact hx) h1 h63 hbytes hbase h

/-- What a call on a thing does: it returns r, and the thing has become O'. -/
def Loc (P : Program) (f : Nat) (args : Array Value) (O : Thing) (r : Value) (O' : Thing) : Prop :=
  ∀ w S, O.is w S → Calls P f args w fun e w' => e = .returned r ∧ Now S w w' [O']
theorem Loc.at_ {P : Program} {f : Nat} {args : Array Value} {O O' : Thing} {r : Value} (hl : Loc P f args O r O') {S0 : Nat → Prop} {w0 w : World} (pre post : List Thing) (h : Now S0 w0 w (pre ++ O :: post)) :
    Calls P f args w fun e w' => e = .returned r ∧ Now S0 w0 w' (pre ++ O' :: post) := by
  obtain ⟨S, h1, _, h2⟩ := h.at_
  exact (hl w S h1).mono fun e w' ⟨he, h3⟩ => ⟨he, h2 w' [O'] h3⟩
end Go.Proofs.Ytofoneapfokdjaa

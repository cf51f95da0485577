/- What the laws of this seat lean on, part 7. -/
import Derived.Test.YthlbciinpidedaaGreatZK2
import Derived.Test.YthlbciinpidedaaGreatZK4
/- Things that lie in memory, each in blocks of its own: what a call on one of them leaves of the others. No program in sight. -/
namespace Go.Proofs.YthlbciinpidedaaGreat
set_option linter.unusedSimpArgs false
set_option linter.unusedVariables false
set_option maxRecDepth 100000
open Go.RowKit

/-- A thing that lies in a world, in some blocks. -/
structure Thing where
  is : World → (Nat → Prop) → Prop
  keep : ∀ {w w' : World} {S T : Nat → Prop}, is w S → Fr T w w' → (∀ k, S k → ¬ T k) → is w' S
  lt : ∀ {w : World} {S : Nat → Prop} {k : Nat}, is w S → S k → k < w.heap.size

def Thing.none_ : Thing := ⟨fun _ S => ∀ k, ¬ S k, fun h _ _ => h, fun h hk => absurd hk (h _)⟩
/-- Both, in blocks apart. -/
def Thing.star (O P : Thing) : Thing where
  is w S := ∃ S1 S2, O.is w S1 ∧ P.is w S2 ∧ (∀ k, S1 k → ¬ S2 k) ∧ ∀ k, S k ↔ S1 k ∨ S2 k
  keep := by
    rintro w w' S T ⟨S1, S2, h1, h2, hd, hS⟩ hF hn
    exact ⟨S1, S2, O.keep h1 hF (fun k hk => hn k ((hS k).2 (.inl hk))), P.keep h2 hF (fun k hk => hn k ((hS k).2 (.inr hk))), hd, hS⟩
  lt := by
    rintro w S k ⟨S1, S2, h1, h2, hd, hS⟩ hk
    rcases (hS k).1 hk with h | h
    · exact O.lt h1 h
    · exact P.lt h2 h
def Thing.all : List Thing → Thing
  | [] => Thing.none_
  | O :: L => O.star (Thing.all L)
def Thing.ex {α : Type} (F : α → Thing) : Thing where
  is w S := ∃ a, (F a).is w S
  keep := by
    rintro w w' S T ⟨a, h⟩ hF hn
    exact ⟨a, (F a).keep h hF hn⟩
  lt := by
    rintro w S k ⟨a, h⟩ hk
    exact (F a).lt h hk

/-- A block of just these cells. -/
def Thing.cells (g : Nat) (t : TypeId) (cs : Array Value) : Thing where
  is w S := Blk w g t cs ∧ ∀ k, S k ↔ k = g
  keep := by
    rintro w w' S T ⟨h, hS⟩ hF hn
    exact ⟨hF.blk h (hn g ((hS g).2 rfl)), hS⟩
  lt := by
    rintro w S k ⟨h, hS⟩ hk
    rw [(hS k).1 hk]; exact h.lt
/-- A row of its own. -/
def Thing.row (t : TypeId) (size : Nat) (v : Value) (n : Nat) (xs : List Value) : Thing where
  is w S := w.ownsRow 0 t size v n xs ∧ ∀ k, S k ↔ v.ownBlock = some k
  keep := by
    rintro w w' S T ⟨h, hS⟩ hF hn
    exact ⟨hF.own h (fun k hk => hn k ((hS k).2 hk)), hS⟩
  lt := by
    rintro w S k ⟨h, hS⟩ hk
    exact (h.lt k ((hS k).1 hk)).2

theorem Thing.all_at (pre post : List Thing) (O : Thing) (w : World) (S : Nat → Prop) :
    (Thing.all (pre ++ O :: post)).is w S ↔ ∃ S1 S2, O.is w S1 ∧ (Thing.all (pre ++ post)).is w S2 ∧ (∀ k, S1 k → ¬ S2 k) ∧ ∀ k, S k ↔ S1 k ∨ S2 k := by
  induction pre generalizing S with
  | nil => exact Iff.rfl
  | cons P pre ih =>
    constructor
    · rintro ⟨A, R, hA, hR, hd, hS⟩
      obtain ⟨S1, S2, h1, h2, hd2, hS2⟩ := (ih R).1 hR
      refine ⟨S1, fun k => A k ∨ S2 k, h1, ⟨A, S2, hA, h2, fun k ha h2 => hd k ha ((hS2 k).2 (.inr h2)), fun k => Iff.rfl⟩, fun k h1 hk => ?_, fun k => ?_⟩
      · rcases hk with hk | hk
        · exact hd k hk ((hS2 k).2 (.inl h1))
        · exact hd2 k h1 hk
      · rw [hS k, hS2 k]
        constructor
        · rintro (h | h | h)
          · exact .inr (.inl h)
          · exact .inl h
          · exact .inr (.inr h)
        · rintro (h | h | h)
          · exact .inr (.inl h)
          · exact .inl h
          · exact .inr (.inr h)
    · rintro ⟨S1, R, h1, ⟨A, S2, hA, h2, hd2, hR⟩, hd, hS⟩
      refine ⟨A, fun k => S1 k ∨ S2 k, hA, (ih _).2 ⟨S1, S2, h1, h2, fun k h1 h2 => hd k h1 ((hR k).2 (.inr h2)), fun k => Iff.rfl⟩, fun k ha hk => ?_, fun k => ?_⟩
      · rcases hk with hk | hk
        · exact hd k hk ((hR k).2 (.inl ha))
        · exact hd2 k ha hk
      · rw [hS k, hR k]
        constructor
        · rintro (h | h | h)
          · exact .inr (.inl h)
          · exact .inl h
          · exact .inr (.inr h)
        · rintro (h | h | h)
          · exact .inr (.inl h)
          · exact .inl h
          · exact .inr (.inr h)

theorem Thing.all_app (L M : List Thing) (w : World) (S : Nat → Prop) :
    (Thing.all (L ++ M)).is w S ↔ ∃ S1 S2, (Thing.all L).is w S1 ∧ (Thing.all M).is w S2 ∧ (∀ k, S1 k → ¬ S2 k) ∧ ∀ k, S k ↔ S1 k ∨ S2 k := by
  induction L generalizing S with
  | nil =>
    constructor
    · intro h
      exact ⟨fun _ => False, S, fun _ h => h, h, fun _ h => h.elim, fun k => ⟨.inr, fun h => h.elim False.elim id⟩⟩
    · rintro ⟨S1, S2, h1, h2, hd, hS⟩
      have e : S = S2 := by
        funext k
        exact propext ((hS k).trans ⟨fun h => h.elim (fun h => absurd h (h1 k)) id, .inr⟩)
      rw [e]; exact h2
  | cons P L ih =>
    constructor
    · rintro ⟨A, R, hA, hR, hd, hS⟩
      obtain ⟨S1, S2, h1, h2, hd2, hS2⟩ := (ih R).1 hR
      refine ⟨fun k => A k ∨ S1 k, S2, ⟨A, S1, hA, h1, fun k ha h1 => hd k ha ((hS2 k).2 (.inl h1)), fun k => Iff.rfl⟩, h2, fun k hk h2 => ?_, fun k => ?_⟩
      · rcases hk with hk | hk
        · exact hd k hk ((hS2 k).2 (.inr h2))
        · exact hd2 k hk h2
      · rw [hS k, hS2 k, or_assoc]
    · rintro ⟨R, S2, ⟨A, S1, hA, h1, hd2, hR⟩, h2, hd, hS⟩
      refine ⟨A, fun k => S1 k ∨ S2 k, hA, (ih _).2 ⟨S1, S2, h1, h2, fun k h1 h2 => hd k ((hR k).2 (.inr h1)) h2, fun k => Iff.rfl⟩, fun k ha hk => ?_, fun k => ?_⟩
      · rcases hk with hk | hk
        · exact hd2 k ha hk
        · exact hd k ((hR k).2 (.inl ha)) hk
      · rw [hS k, hR k, or_assoc]

/-- In w there lie the things L, each in blocks of its own; since w0 nothing has turned but the blocks of S0, and new ones; and L lie in these. -/
def Now (S0 : Nat → Prop) (w0 w : World) (L : List Thing) : Prop := ∃ S, (Thing.all L).is w S ∧ Fr S0 w0 w ∧ ∀ k, S k → S0 k ∨ w0.heap.size ≤ k
/-- .. of a call's own: nothing that there was has turned. -/
abbrev Sep (W w : World) (L : List Thing) : Prop := Now (fun _ => False) W w L

section
variable {B : Nat} {w0 w w' : World} {L M pre post : List Thing} {O O' P : Thing} {S S' S0 : Nat → Prop}
theorem Now.start {S : Nat → Prop} {L : List Thing} (h : (Thing.all L).is w S) : Now S w w L := ⟨S, h, Fr.refl _ _, fun _ h => .inl h⟩
theorem Now.start1 (h : O.is w S) : Now S w w [O] := ⟨S, ⟨S, fun _ => False, h, fun _ h => h, fun _ _ h => h, fun _ => ⟨.inl, fun h => h.elim id False.elim⟩⟩, Fr.refl _ _, fun _ h => .inl h⟩
theorem Sep.start (W : World) : Sep W W [] := ⟨fun _ => False, fun _ h => h, Fr.refl _ _, fun _ h => h.elim⟩
theorem Now.fr (h : Now S0 w0 w L) : Fr S0 w0 w := by obtain ⟨_, _, h, _⟩ := h; exact h
theorem Sep.base (h : Sep w0 w L) : Below w0.heap.size w0 w := h.fr.below (Nat.le_refl _) (fun _ _ h => h.elim)
theorem Now.size (h : Now S0 w0 w L) : w0.heap.size ≤ w.heap.size := h.fr.size
theorem Now.one (h : Now S0 w0 w [O]) : ∃ S, O.is w S ∧ ∀ k, S k → S0 k ∨ w0.heap.size ≤ k := by
  obtain ⟨S, ⟨S1, S2, h1, h2, hd, hS⟩, hF, hk⟩ := h
  exact ⟨S1, h1, fun k h => hk k ((hS k).2 (.inl h))⟩
theorem Now.below (h : Now S0 w0 w L) (hb : Below w.heap.size w w') : Now S0 w0 w' L := by
  obtain ⟨S, h1, h2, h3⟩ := h
  have hf : Fr (fun k => w.heap.size ≤ k) w w' := Fr.of_below hb
  exact ⟨S, (Thing.all L).keep h1 hf (fun k hk hn => by have := (Thing.all L).lt h1 hk; omega), h2.trans hf (fun k hk hn => by have := h2.size; omega), h3⟩
theorem Now.drew (h : Now S0 w0 w L) : Now S0 w0 w.drew L := h.below ⟨rfl, rfl, rfl, Nat.le_refl _, fun _ _ => rfl⟩
theorem Now.drewN (h : Now S0 w0 w L) (n : Nat) : Now S0 w0 (w.drewN n) L := h.below ⟨rfl, rfl, rfl, Nat.le_refl _, fun _ _ => rfl⟩
theorem Now.alloc (h : Now S0 w0 w L) (o : Obj) : Now S0 w0 (w.alloc o) L := h.below ((Below.refl _ _).alloc (Nat.le_refl _) o)
/-- What turns some of the things leaves all others. -/
theorem Now.at_ (h : Now S0 w0 w (pre ++ O :: post)) : ∃ S, O.is w S ∧ (∀ k, S k → S0 k ∨ w0.heap.size ≤ k) ∧ ∀ w' M, Now S w w' M → Now S0 w0 w' (pre ++ (M ++ post)) := by
  obtain ⟨S, h1, h2, h3⟩ := h
  obtain ⟨S1, S2, ho, hr, hd, hS⟩ := (Thing.all_at pre post O w S).1 h1
  refine ⟨S1, ho, fun k hk => h3 k ((hS k).2 (.inl hk)), fun w' M hN => ?_⟩
  obtain ⟨S', hM, hF, hn⟩ := hN
  obtain ⟨A, C, hA, hC, hAC, hS2⟩ := (Thing.all_app pre post w S2).1 hr
  have hd2 : ∀ k, S' k → ¬ S2 k := fun k hk h2 => by
    rcases hn k hk with h | h
    · exact hd k h h2
    · have := (Thing.all _).lt hr h2; omega
  refine ⟨fun k => A k ∨ S' k ∨ C k, (Thing.all_app pre (M ++ post) w' _).2 ⟨A, fun k => S' k ∨ C k, (Thing.all pre).keep hA hF (fun k ha h1 => hd k h1 ((hS2 k).2 (.inl ha))), (Thing.all_app M post w' _).2 ⟨S', C, hM, (Thing.all post).keep hC hF (fun k hc h1 => hd k h1 ((hS2 k).2 (.inr hc))), fun k hk hc => hd2 k hk ((hS2 k).2 (.inr hc)), fun _ => Iff.rfl⟩, fun k ha hk => ?_, fun _ => Iff.rfl⟩, ?_, fun k hk => ?_⟩
  · rcases hk with hk | hk
    · exact hd2 k hk ((hS2 k).2 (.inl ha))
    · exact hAC k ha hk
  · exact h2.trans hF (fun k hk h1 => by
      rcases h3 k ((hS k).2 (.inl h1)) with h | h
      · exact h
      · omega)
  · rcases hk with hk | hk | hk
    · exact h3 k ((hS k).2 (.inr ((hS2 k).2 (.inl hk))))
    · rcases hn k hk with h | h
      · exact h3 k ((hS k).2 (.inl h))
      · exact .inr (Nat.le_trans h2.size h)
    · exact h3 k ((hS k).2 (.inr ((hS2 k).2 (.inr hk))))
theorem Now.get (h : Now S0 w0 w (pre ++ O :: post)) : ∃ S, O.is w S := by
  obtain ⟨S, h1, _⟩ := h.at_
  exact ⟨S, h1⟩
theorem Now.drop (h : Now S0 w0 w (pre ++ O :: post)) : Now S0 w0 w (pre ++ post) := by
  obtain ⟨S, h1, h2, h3⟩ := h
  obtain ⟨S1, S2, ho, hr, hd, hS⟩ := (Thing.all_at pre post O w S).1 h1
  exact ⟨S2, hr, h2, fun k hk => h3 k ((hS k).2 (.inr hk))⟩
/-- The same, seen otherwise: as one thing, as many. -/
theorem Now.imp (h : Now S0 w0 w (pre ++ O :: post)) (hi : ∀ S, O.is w S → (Thing.all M).is w S) : Now S0 w0 w (pre ++ (M ++ post)) := by
  obtain ⟨S, h1, _, h2⟩ := h.at_
  exact h2 w M ⟨S, hi S h1, Fr.refl _ _, fun _ h => .inl h⟩
theorem Now.fold (h : Now S0 w0 w (pre ++ (M ++ post))) (hi : ∀ S, (Thing.all M).is w S → O.is w S) : Now S0 w0 w (pre ++ O :: post) := by
  obtain ⟨S, h1, h2, h3⟩ := h
  obtain ⟨A, R, hA, hR, hd, hS⟩ := (Thing.all_app pre (M ++ post) w S).1 h1
  obtain ⟨X, C, hX, hC, hd2, hR2⟩ := (Thing.all_app M post w R).1 hR
  exact ⟨S, (Thing.all_app pre (O :: post) w S).2 ⟨A, R, hA, ⟨X, C, hi X hX, hC, hd2, hR2⟩, hd, hS⟩, h2, h3⟩
/-- A new thing, in new blocks. -/
theorem Now.push (h : Now S0 w0 w L) (hb : Below w.heap.size w w') (ho : O.is w' S') (hn : ∀ k, S' k → w.heap.size ≤ k) : Now S0 w0 w' (O :: L) := by
  obtain ⟨S, h1, h2, h3⟩ := h
  have hf : Fr (fun k => w.heap.size ≤ k) w w' := Fr.of_below hb
  refine ⟨fun k => S' k ∨ S k, ⟨S', S, ho, (Thing.all L).keep h1 hf (fun k hk hn => by have := (Thing.all L).lt h1 hk; omega), fun k hk hS => ?_, fun k => Iff.rfl⟩, h2.trans hf (fun k hk hn => by have := h2.size; omega), fun k hk => ?_⟩
  · have := (Thing.all L).lt h1 hS
    have := hn k hk
    omega
  · rcases hk with hk | hk
    · exact .inr (Nat.le_trans h2.size (hn k hk))
    · exact h3 k hk
theorem Now.pushCells (h : Now S0 w0 w L) (t : TypeId) (cs : Array Value) : Now S0 w0 (w.alloc (.cells cs t)) (Thing.cells w.heap.size t cs :: L) :=
  h.push ((Below.refl _ _).alloc (Nat.le_refl _) _) (S' := fun k => k = w.heap.size) ⟨Blk.new w t cs, fun _ => Iff.rfl⟩ (fun k hk => Nat.le_of_eq hk.symm)
/-- Things of a call's own, that it leaves. -/
theorem Now.pushAll (h : Now S0 w0 w L) (hN : Now (fun _ => False) w w' M) : Now S0 w0 w' (M ++ L) := by
  obtain ⟨S, h1, h2, h3⟩ := h
  obtain ⟨S', hM, hF, hn⟩ := hN
  have hge : ∀ k, S' k → w.heap.size ≤ k := fun k hk => (hn k hk).resolve_left id
  refine ⟨fun k => S' k ∨ S k, (Thing.all_app M L w' _).2 ⟨S', S, hM, (Thing.all L).keep h1 hF (fun _ _ h => h), fun k hk hS => by have := (Thing.all L).lt h1 hS; have := hge k hk; omega, fun _ => Iff.rfl⟩, h2.trans hF (fun _ _ h => h.elim), fun k hk => ?_⟩
  rcases hk with hk | hk
  · exact .inr (Nat.le_trans h2.size (hge k hk))
  · exact h3 k hk
theorem Now.pushRow (h : Now S0 w0 w L) (t : TypeId) (xs : Array Value) (hm : xs.size ≤ maxLen) : Now S0 w0 (w.alloc (.cells xs t)) (Thing.row t 1 (.slice (some ⟨w.heap.size, 0, none⟩) xs.size xs.size) xs.size xs.toList :: L) :=
  h.push ((Below.refl _ _).alloc (Nat.le_refl _) _) (S' := fun k => k = w.heap.size) ⟨World.ownsRow_lit (e := t) (base := 0) (size := 1) w xs xs.size (Nat.zero_le _) hm (by omega), fun k => by simp [Value.ownBlock, eq_comm]⟩ (fun k hk => Nat.le_of_eq hk.symm)
theorem Now.pushNil (h : Now S0 w0 w L) (t : TypeId) (size : Nat) : Now S0 w0 w (Thing.row t size (.slice none 0 0) 0 [] :: L) :=
  h.push (Below.refl _ _) (S' := fun _ => False) ⟨World.ownsRow_nil .., fun k => by simp [Value.ownBlock]⟩ (fun k hk => hk.elim)
theorem Now.swap (h : Now S0 w0 w (O :: P :: L)) : Now S0 w0 w (P :: O :: L) := by
  obtain ⟨S, h1, h2⟩ := h
  exact ⟨S, (Thing.all_at [P] L O w S).2 ((Thing.all_at [] (P :: L) O w S).1 h1), h2⟩
/-- The thing at a place to the front. -/
theorem Now.front (h : Now S0 w0 w (pre ++ O :: post)) : Now S0 w0 w (O :: (pre ++ post)) := by
  obtain ⟨S, h1, h2⟩ := h
  exact ⟨S, (Thing.all_at [] (pre ++ post) O w S).2 ((Thing.all_at pre post O w S).1 h1), h2⟩
theorem Now.back (h : Now S0 w0 w (O :: (pre ++ post))) : Now S0 w0 w (pre ++ O :: post) := by
  obtain ⟨S, h1, h2⟩ := h
  exact ⟨S, (Thing.all_at pre post O w S).2 ((Thing.all_at [] (pre ++ post) O w S).1 h1), h2⟩
theorem Thing.all_perm {L M : List Thing} (hp : L.Perm M) : ∀ (w : World) (S : Nat → Prop), (Thing.all L).is w S → (Thing.all M).is w S := by
  induction hp with
  | nil => exact fun _ _ h => h
  | cons O _ ih => rintro w S ⟨S1, S2, h1, h2, r⟩; exact ⟨S1, S2, h1, ih w S2 h2, r⟩
  | swap O P L => exact fun w S h => (Thing.all_at [O] L P w S).2 ((Thing.all_at [] (O :: L) P w S).1 h)
  | trans _ _ ih1 ih2 => exact fun w S h => ih2 w S (ih1 w S h)
theorem Now.perm (h : Now S0 w0 w L) (hp : L.Perm M) : Now S0 w0 w M := by
  obtain ⟨S, h1, h2⟩ := h
  exact ⟨S, Thing.all_perm hp w S h1, h2⟩
/-- Two of the things, apart from one another. -/
theorem Now.at2 (h : Now S0 w0 w (P :: (pre ++ O :: post))) : ∃ S1 S, P.is w S1 ∧ O.is w S ∧ (∀ k, S1 k → ¬ S k) ∧ ∀ w' M, Now S w w' M → Now S0 w0 w' (P :: (pre ++ (M ++ post))) := by
  obtain ⟨Sa, h1, h2, h3⟩ := h
  have h1' := h1
  obtain ⟨S1, R, hP, hR, hd, hS⟩ := h1
  obtain ⟨S, S2, ho, hr, hd2, hS2⟩ := (Thing.all_at pre post O w R).1 hR
  refine ⟨S1, S, hP, ho, fun k h1 h2 => hd k h1 ((hS2 k).2 (.inl h2)), fun w' M hN => ?_⟩
  have hPk : P.is w' S1 := P.keep hP hN.fr (fun k h1 h2 => hd k h1 ((hS2 k).2 (.inl h2)))
  have hrest : Now R w w (pre ++ O :: post) := Now.start hR
  obtain ⟨S', ho', _, h4⟩ := hrest.at_
  obtain ⟨T, hT, hTF, hTn⟩ := hN
  obtain ⟨X, C, hX, hC, hXC, hX2⟩ := (Thing.all_app pre post w S2).1 hr
  have hTd : ∀ k, T k → ¬ S2 k := fun k hk h2 => by
    rcases hTn k hk with h | h
    · exact hd2 k h h2
    · have := (Thing.all _).lt hr h2; omega
  have hT1 : ∀ k, S1 k → ¬ T k := fun k h1 hk => by
    rcases hTn k hk with h | h
    · exact hd k h1 ((hS2 k).2 (.inl h))
    · have := P.lt hP h1; omega
  refine ⟨fun k => S1 k ∨ X k ∨ T k ∨ C k, ⟨S1, fun k => X k ∨ T k ∨ C k, hPk, (Thing.all_app pre (M ++ post) w' _).2 ⟨X, fun k => T k ∨ C k, (Thing.all pre).keep hX hTF (fun k hx h1 => hd2 k h1 ((hX2 k).2 (.inl hx))), (Thing.all_app M post w' _).2 ⟨T, C, hT, (Thing.all post).keep hC hTF (fun k hc h1 => hd2 k h1 ((hX2 k).2 (.inr hc))), fun k hk hc => hTd k hk ((hX2 k).2 (.inr hc)), fun _ => Iff.rfl⟩, fun k hx hk => ?_, fun _ => Iff.rfl⟩, fun k h1 hk => ?_, fun _ => Iff.rfl⟩, ?_, fun k hk => ?_⟩
  · rcases hk with hk | hk
    · exact hTd k hk ((hX2 k).2 (.inl hx))
    · exact hXC k hx hk
  · rcases hk with hk | hk | hk
    · exact hd k h1 ((hS2 k).2 (.inr ((hX2 k).2 (.inl hk))))
    · exact hT1 k h1 hk
    · exact hd k h1 ((hS2 k).2 (.inr ((hX2 k).2 (.inr hk))))
  · exact h2.trans hTF (fun k hk h1 => by
      rcases h3 k ((hS k).2 (.inr ((hS2 k).2 (.inl h1)))) with h | h
      · exact h
      · omega)
  · rcases hk with hk | hk | hk | hk
    · exact h3 k ((hS k).2 (.inl hk))
    · exact h3 k ((hS k).2 (.inr ((hS2 k).2 (.inr ((hX2 k).2 (.inl hk))))))
    · rcases hTn k hk with h | h
      · exact h3 k ((hS k).2 (.inr ((hS2 k).2 (.inl h))))
      · exact .inr (Nat.le_trans h2.size h)
    · exact h3 k ((hS k).2 (.inr ((hS2 k).2 (.inr ((hX2 k).2 (.inr hk))))))
/-- A block's cells, and that they may be written. -/
theorem Now.blk {g : Nat} {t : TypeId} {cs : Array Value} (h : Now S0 w0 w (pre ++ Thing.cells g t cs :: post)) : Blk w g t cs := by
  obtain ⟨S, h1, _⟩ := h.at_
  exact h1.1
theorem Now.row {t : TypeId} {size n : Nat} {v : Value} {xs : List Value} (h : Now S0 w0 w (pre ++ Thing.row t size v n xs :: post)) : w.ownsRow 0 t size v n xs := by
  obtain ⟨S, h1, _⟩ := h.at_
  exact h1.1
/-- A store into a block. -/
theorem Now.set_ {g : Nat} {t : TypeId} {cs : Array Value} (h : Now S0 w0 w (pre ++ Thing.cells g t cs :: post)) (i : Nat) (u : Value) : Now S0 w0 (w.setCell ⟨g, i, none⟩ u) (pre ++ Thing.cells g t (cs.setIfInBounds i u) :: post) := by
  obtain ⟨S, h1, _, h2⟩ := h.at_
  exact h2 _ [Thing.cells g t (cs.setIfInBounds i u)] ⟨S, ⟨S, fun _ => False, ⟨h1.1.set_ i u, h1.2⟩, fun _ h => h, fun _ _ h => h, fun _ => ⟨.inl, fun h => h.elim id False.elim⟩⟩, (Fr.refl _ w).setCell (fun _ => (h1.2 g).2 rfl) u, fun _ h => .inl h⟩
/-- An append to a row. -/
theorem Now.grown {t t' : TypeId} {size n n' : Nat} {v v' : Value} {xs xs' : List Value} (h : Now S0 w0 w (pre ++ Thing.row t size v n xs :: post)) (ho : w'.ownsRow 0 t' size v' n' xs') (hg : w.grownBy w' v.ownBlock) (hn : v'.ownBlock = v.ownBlock ∨ ∃ q, w.heap.size ≤ q ∧ v'.ownBlock = some q) :
    Now S0 w0 w' (pre ++ Thing.row t' size v' n' xs' :: post) := by
  obtain ⟨S, h1, _, h2⟩ := h.at_
  refine h2 _ [Thing.row t' size v' n' xs'] ⟨fun k => v'.ownBlock = some k, ⟨fun k => v'.ownBlock = some k, fun _ => False, ⟨ho, fun _ => Iff.rfl⟩, fun _ h => h, fun _ _ h => h, fun _ => ⟨.inl, fun h => h.elim id False.elim⟩⟩, Fr.of_grown hg (fun k e => (h1.2 k).2 e), fun k hk => ?_⟩
  rcases hn with e | ⟨q, hq, e⟩
  · exact .inl ((h1.2 k).2 (e ▸ hk))
  · rw [e] at hk
    obtain rfl := Option.some.inj hk
    exact .inr hq
/-- A row is let go. -/
theorem Now.rowNil {t t' : TypeId} {size size' n : Nat} {v : Value} {xs : List Value} (h : Now S0 w0 w (pre ++ Thing.row t size v n xs :: post)) : Now S0 w0 w (pre ++ Thing.row t' size' (.slice none 0 0) 0 [] :: post) := by
  obtain ⟨S, h1, _, h2⟩ := h.at_
  exact h2 _ [Thing.row t' size' (.slice none 0 0) 0 []] ⟨fun _ => False, ⟨fun _ => False, fun _ => False, ⟨World.ownsRow_nil .., fun k => by simp [Value.ownBlock]⟩, fun _ h => h, fun _ _ h => h, fun _ => ⟨.inl, fun h => h.elim id id⟩⟩, Fr.refl _ _, fun _ h => h.elim⟩
/-- A store into a row. -/
theorem Now.rowSet {t : TypeId} {n c r : Nat} {xs : List Value} (h : Now S0 w0 w (pre ++ Thing.row t 1 (.slice (some ⟨r, 0, none⟩) n c) n xs :: post)) {q : Nat} (hq : q < n) (u : Value) :
    Now S0 w0 (w.setCell ⟨r, q, none⟩ u) (pre ++ Thing.row t 1 (.slice (some ⟨r, 0, none⟩) n c) n (xs.set q u) :: post) := by
  obtain ⟨S, h1, _, h2⟩ := h.at_
  have hr : w.ownsRow 0 t 1 (.slice (some ⟨r, 0, none⟩) n c) n xs := h1.1
  refine h2 _ [Thing.row t 1 (.slice (some ⟨r, 0, none⟩) n c) n (xs.set q u)] ⟨S, ⟨S, fun _ => False, ⟨?_, h1.2⟩, fun _ h => h, fun _ _ h => h, fun _ => ⟨.inl, fun h => h.elim id False.elim⟩⟩, (Fr.refl _ w).setCell (fun _ => (h1.2 r).2 rfl) u, fun _ h => .inl h⟩
  refine ⟨by rw [List.length_set]; exact hr.1, ?_⟩
  rcases hr.2 with ⟨h1, _⟩ | ⟨g, cap, cur, hv, hg, hh, hle, hm, hs, hx⟩
  · cases h1
  · simp only [Value.slice.injEq, Option.some.injEq, Addr.mk.injEq, and_true, true_and] at hv
    obtain ⟨rfl, rfl⟩ := hv
    have hb : Blk w r t cur := hh
    refine .inr ⟨r, c, cur.setIfInBounds q u, rfl, hg, hb.set_ q u, hle, hm, by simpa using hs, ?_⟩
    rw [← hx, Nat.mul_one]
    apply List.ext_getElem?
    intro j
    simp only [List.getElem?_take, List.getElem?_set, Array.getElem?_toList, Array.getElem?_setIfInBounds, List.length_take, Array.length_toList]
    by_cases hj : j < n
    · rw [if_pos hj, if_pos hj]
      by_cases e : q = j
      · rw [if_pos e, if_pos e, if_pos (by omega), if_pos (by omega)]
      · rw [if_neg e, if_neg e]
    · rw [if_neg hj, if_neg hj]
      rw [if_neg (by omega)]
theorem row_at {t : TypeId} {n c r : Nat} {xs : List Value} (h : w.ownsRow 0 t 1 (.slice (some ⟨r, 0, none⟩) n c) n xs) {q : Nat} (hq : q < n) : w.cell? ⟨r, q, none⟩ = xs[q]? ∧ w.frozen? ⟨r, q, none⟩ = false := by
  rcases h.2 with ⟨h1, _⟩ | ⟨g, cap, cur, hv, hg, hh, hle, hm, hs, hx⟩
  · cases h1
  · simp only [Value.slice.injEq, Option.some.injEq, Addr.mk.injEq, and_true, true_and] at hv
    obtain ⟨rfl, _⟩ := hv
    have hb : Blk w r t cur := hh
    refine ⟨?_, hb.frozen q⟩
    rw [hb.cell, ← hx, List.getElem?_take, if_pos (by omega)]
    simp
/-- A row that has cells lies at the head of a block. -/
theorem row_form {t : TypeId} {size n : Nat} {v : Value} {xs : List Value} (h : w.ownsRow 0 t size v n xs) (hn : 0 < n) : ∃ r c cur, v = .slice (some ⟨r, 0, none⟩) n c ∧ Blk w r t cur ∧ n * size ≤ cur.size ∧ cur.toList.take (n * size) = xs := by
  rcases h.2 with ⟨_, h0⟩ | ⟨g, cap, cur, hv, _, hh, hle, _, hs, hx⟩
  · omega
  · exact ⟨g, cap, cur, hv, hh, by rw [hs]; exact Nat.mul_le_mul_right size hle, hx⟩
end

/-- 'wpList_app1', the world's size under a letter (behind a store). -/
theorem wpList_app1s {P : Program} (w : World) {ops : Array Oper} {rest : List Oper} {o : Oper} {a : Act} {Q : Exit → Act → World → Prop} (hgd : o.guard = none) (s x : Operand) (t : TypeId)
    (ho : o.op = .call { callee := .builtin .append, args := #[s, x], argTypes := #[t, t] })
    (base : Nat) (e : TypeId) {i : TypeInfo} {z : Value} {bytes : Nat} (ht : P.underlying t = some (.slice e)) (hi : P.info? e = some i) (hz : i.zero = some z)
    (hsize : i.size = 1) (hby : i.bytes = bytes) (hzs : z.cells.size = 1)
    {v : Value} {n : Nat} {xs : List Value} {u : Value} (hown : w.ownsRow base e 1 v n xs) (hs : a.eval s = v) {H : Nat} (hH : w.heap.size = H) (hx : a.eval x = .slice (some ⟨H, 0, none⟩) 1 1) (h1 : u.oneCell' = true)
    (h63 : n + 1 ≤ maxLen) (hbytes : (n + 1) * bytes ≤ 140737488355328) (hbase : base ≤ w.heap.size)
    (h : ∀ v' w', w'.ownsRow base e 1 v' (n + 1) (xs ++ [u]) → w.grownBy w' v.ownBlock → (v'.ownBlock = v.ownBlock ∨ v'.ownBlock = some (w.heap.size + 1)) → wpList P ops Q rest (a.put o.dst v') w') : wpList P ops Q (o :: rest) a (w.alloc (.cells #[u] e)) :=
  wpList_app1 w hgd s x t ho base e ht hi hz hsize hby hzs hown hs (by rw [hH]; exact hx) h1 h63 hbytes hbase h

/-- What a call on a thing does: it returns r, and the thing has become O'. -/
def Loc (P : Program) (f : Nat) (args : Array Value) (O : Thing) (r : Value) (O' : Thing) : Prop :=
  ∀ w S, O.is w S → Calls P f args w fun e w' => e = .returned r ∧ Now S w w' [O']
theorem Loc.at_ {P : Program} {f : Nat} {args : Array Value} {O O' : Thing} {r : Value} (hl : Loc P f args O r O') {S0 : Nat → Prop} {w0 w : World} (pre post : List Thing) (h : Now S0 w0 w (pre ++ O :: post)) :
    Calls P f args w fun e w' => e = .returned r ∧ Now S0 w0 w' (pre ++ O' :: post) := by
  obtain ⟨S, h1, _, h2⟩ := h.at_
  exact (hl w S h1).mono fun e w' ⟨he, h3⟩ => ⟨he, h2 w' [O'] h3⟩
end Go.Proofs.YthlbciinpidedaaGreat
/- A drawn region: what yields the same in every later world first, then whatever order is left. -/
namespace Go.Proofs.YthlbciinpidedaaGreat
set_option linter.unusedSimpArgs false
set_option linter.unusedVariables false
set_option maxRecDepth 100000
open Go.RowKit

section
variable {P : Program} {ops : Array Oper} {Q : Exit → Act → World → Prop} {md : Region.Mode} {R E : World → World → Prop}
/-- In every world (p), or every one that R extends, the operation yields v, and what it turns is E. -/
def YieldsE (P : Program) (ops : Array Oper) (R E : World → World → Prop) (p : Bool) (w : World) (o : Oper) (v : Value) (a : Act) : Prop :=
  ∀ w1, (p = true ∨ R w w1) → KGoal P ops E w1 o v a
/-- What all others may turn: R; what those taken first may: E. -/
structure Grow2 (R E : World → World → Prop) : Prop where
  big : Grow R
  small : Grow E
  sub : ∀ a b, E a b → R a b
theorem YieldsE.mono (G : Grow2 R E) {p : Bool} {w w1 : World} {o : Oper} {v : Value} {a : Act} (h : YieldsE P ops R E p w o v a) (hw : p = true ∨ R w w1) : YieldsE P ops R E p w1 o v a :=
  fun w2 h2 => h w2 (by
    rcases hw with hw | hw
    · exact .inl hw
    · exact h2.imp id fun h2 => G.big.trans _ _ _ hw h2)
theorem YieldsE.of_same {p : Bool} {w : World} {o : Oper} {v : Value} {a a' : Act} (hy : YieldsE P ops R E p w o v a) (he : execOp a'.eval o = execOp a.eval o)
    (hw : Region.wanted o (yielded ops a'.tmps) = Region.wanted o (yielded ops a.tmps)) : YieldsE P ops R E p w o v a' := by
  intro w1 h1
  have := hy w1 h1
  unfold KGoal at *
  rw [he, hw]
  exact this
def wpAnyE (P : Program) (md : Region.Mode) (ops : Array Oper) (Q : Exit → Act → World → Prop) (R E : World → World → Prop) (T : List Nat) : Nat → Array Bool → Act → World → Prop
  | 0, listed, a, w => Region.ready md ops listed = [] ∧ ∀ w1, E w w1 → Q .normal a w1
  | fuel + 1, listed, a, w => ∀ w1, E w w1 →
    (Region.ready md ops listed = [] → Q .normal a w1) ∧
    ∀ i ∈ Region.ready md ops listed, wpOp P ops Q i (fun a' w' => (i ∉ T → R w1 w') ∧ wpAnyE P md ops Q R E T fuel (listed.setIfInBounds i true) a' w') a w1
theorem wpAnyE_mono (G : Grow2 R E) {T : List Nat} : ∀ {fuel : Nat} {listed : Array Bool} {a : Act} {w w1 : World}, wpAnyE P md ops Q R E T fuel listed a w → E w w1 → wpAnyE P md ops Q R E T fuel listed a w1
  | 0, _, _, _, _, h, hw => ⟨h.1, fun w2 h2 => h.2 w2 (G.small.trans _ _ _ hw h2)⟩
  | _ + 1, _, _, _, _, h, hw => fun w2 h2 => h w2 (G.small.trans _ _ _ hw h2)
theorem wpAny_of_E (G : Grow2 R E) {T : List Nat} : ∀ (fuel : Nat) (listed : Array Bool) (a : Act) (w : World), wpAnyE P md ops Q R E T fuel listed a w → wpAny P md ops Q fuel listed a w
  | 0, _, _, w, h => ⟨h.1, h.2 w (G.small.refl w)⟩
  | fuel + 1, _, _, w, h => ⟨(h w (G.small.refl w)).1, fun i hi => wpOp_mono (fun a' w' h' => wpAny_of_E G fuel _ a' w' h'.2) ((h w (G.small.refl w)).2 i hi)⟩
theorem wpOp_putE {p : Bool} {j : Nat} {oi oj : Oper} {v : Value} (hj : ops[j]? = some oj) (hap : oi.apart ops oj = true)
    (hsi : ∀ cs b, oi.op ≠ .select cs b) (hsj : ∀ cs b, oj.op ≠ .select cs b)
    (hQ : ∀ c a w, Q (.panic c) (a.put oi.dst v) w → Q (.panic c) a w) {K : Act → World → Prop} {a : Act} {w : World}
    (h : wpOp P ops Q j K (a.put oi.dst v) w) :
    wpOp P ops Q j (fun a' w' => (∀ w0, YieldsE P ops R E p w0 oi v a → YieldsE P ops R E p w0 oi v a') ∧ K (a'.put oi.dst v) w') a w := by
  obtain ⟨h1, h2, h3⟩ := Oper.apart_spec hap
  have keep : ∀ (a : Act) u w0, YieldsE P ops R E p w0 oi v a → YieldsE P ops R E p w0 oi v (a.put oj.dst u) := fun a u w0 hy =>
    hy.of_same (execOp_put oi hsi a oj.dst u h3) (wanted_put oi a oj.dst u h3)
  have keepD : ∀ d w0, YieldsE P ops R E p w0 oi v a → YieldsE P ops R E p w0 oi v { a with defers := d :: a.defers } := fun d w0 hy => hy.of_same rfl rfl
  unfold wpOp at *
  simp only [hj] at *
  rw [wanted_put oj a oi.dst v h1] at h
  split
  · rename_i hw
    simp only [hw, if_true] at h
    rcases h with h | ⟨hasks, hlets⟩
    case inr => exact .inr ⟨by unfold Oper.asks at *; rw [execOp_put oj hsj a oi.dst v h1] at hasks; exact hasks, hlets⟩
    refine .inl ?_
    unfold Oper.wp at *
    rw [execOp_put oj hsj a oi.dst v h1] at h
    generalize (execOp a.eval oj).run P w = r at *
    cases r with
    | ok n w' =>
      cases n <;> simp only [Oper.upon] at h ⊢
      case value u => exact ⟨keep a u, by rw [← Act.put_comm a v u h2]; exact h⟩
      case skip => exact ⟨keep a _, by rw [← Act.put_comm a v undef h2]; exact h⟩
      case defer d =>
        refine ⟨fun w0 hy => keep _ _ _ (keepD d w0 hy), ?_⟩
        rw [← Act.put_comm _ v undef h2, ← Act.put_defers]
        exact h
      case enter f args =>
        refine Calls.mono h fun e w'' he => ?_
        cases e with
        | returned u => exact ⟨keep a u, by rw [← Act.put_comm a v u h2]; exact he⟩
        | panicked c => exact hQ _ _ _ he
        | outgrown => exact he
      case row row args => exact Rows.mono h fun u w'' he => ⟨keep a u, by rw [← Act.put_comm a v u h2]; exact he⟩
    | halt x w' =>
      cases x <;> simp only [Oper.upon] at h ⊢
      case panic u => exact hQ _ _ _ h
  · rename_i hw
    simp only [hw] at h
    exact ⟨keep a _, by rw [← Act.put_comm a v undef h2]; exact h⟩
theorem wpAnyE_first (G : Grow2 R E) {T : List Nat} (p : Bool) {i : Nat} {oi : Oper} {v : Value} (hi : ops[i]? = some oi) (hsel : ∀ (j : Nat) (o : Oper) cs b, ops[j]? = some o → o.op ≠ .select cs b)
    (hQ : ∀ c a w, Q (.panic c) (a.put oi.dst v) w → Q (.panic c) a w) :
    ∀ (fuel : Nat) (listed : Array Bool) (a : Act) (w : World),
      (∀ j oj, ops[j]? = some oj → j ≠ i → listed.getD j true = false → (∀ e ∈ oj.after, Region.binds md e = true → e.on ≠ i) → oi.apart ops oj = true) →
      (p = true ∨ ∀ j oj, j ∈ T → ops[j]? = some oj → listed.getD j true = false → ∃ e ∈ oj.after, Region.binds md e = true ∧ e.on = i) →
      i ∈ Region.ready md ops listed → YieldsE P ops R E p w oi v a →
      wpAnyE P md ops Q R E T fuel (listed.setIfInBounds i true) (a.put oi.dst v) w → wpAnyE P md ops Q R E T (fuel + 1) listed a w := by
  intro fuel
  induction fuel with
  | zero =>
    intro listed a w _ _ hr hy H w1 hw1
    refine ⟨fun h => (by rw [h] at hr; cases hr), fun j hj => ?_⟩
    by_cases hji : j = i
    · subst hji; exact wpOp_of_K hi (hy w1 (.inr (G.sub _ _ hw1))) G.small fun w' hR => ⟨fun _ => G.sub _ _ hR, wpAnyE_mono G H (G.small.trans _ _ _ hw1 hR)⟩
    · have := ready_mono hj hji
      rw [H.1] at this
      cases this
  | succ fuel ih =>
    intro listed a w hfree hwait hr hy H w1 hw1
    refine ⟨fun h => (by rw [h] at hr; cases hr), fun j hj => ?_⟩
    by_cases hji : j = i
    · subst hji; exact wpOp_of_K hi (hy w1 (.inr (G.sub _ _ hw1))) G.small fun w' hR => ⟨fun _ => G.sub _ _ hR, wpAnyE_mono G H (G.small.trans _ _ _ hw1 hR)⟩
    · have h1 := (H w1 hw1).2 j (ready_mono hj hji)
      obtain ⟨hjun, oj, hoj, hall⟩ := mem_ready.1 hj
      have hnot : ∀ e ∈ oj.after, Region.binds md e = true → e.on ≠ i := fun e he hb heq => by
        have h1 := hall e he hb
        have h0 := (mem_ready.1 hr).1
        rw [heq] at h1
        rcases Nat.lt_or_ge i listed.size with h' | h'
        · simp [h'] at h0 h1; rw [h0] at h1; cases h1
        · simp [Array.getElem?_eq_none h'] at h1
      have h2 := wpOp_putE (R := R) (E := E) (p := p) hoj (hfree j oj hoj hji hjun hnot) (fun cs b => hsel i oi cs b hi) (fun cs b => hsel j oj cs b hoj) hQ h1
      have hun' : ∀ k, (listed.setIfInBounds j true).getD k true = false → listed.getD k true = false := fun k hun => by
        by_cases hjk : j = k
        · subst hjk; exact hjun
        · rw [getD_set_ne true hjk] at hun; exact hun
      have hfree' : ∀ k ok, ops[k]? = some ok → k ≠ i → (listed.setIfInBounds j true).getD k true = false →
          (∀ e ∈ ok.after, Region.binds md e = true → e.on ≠ i) → oi.apart ops ok = true := fun k ok hk hki hun hno => hfree k ok hk hki (hun' k hun) hno
      have hwait' : p = true ∨ ∀ k ok, k ∈ T → ops[k]? = some ok → (listed.setIfInBounds j true).getD k true = false → ∃ e ∈ ok.after, Region.binds md e = true ∧ e.on = i :=
        hwait.imp id fun hwait k ok hk hok hun => hwait k ok hk hok (hun' k hun)
      have hjT : p = true ∨ j ∉ T := hwait.imp id fun hwait hT => by
        obtain ⟨e, he, hb, hon⟩ := hwait j oj hT hoj hjun
        exact hnot e he hb hon
      refine wpOp_mono (fun a' w' h3 => ⟨h3.2.1, ih (listed.setIfInBounds j true) a' w' hfree' hwait' (ready_mono hr (Ne.symm hji)) ((h3.1 w hy).mono G (hjT.imp id fun hjT => G.big.trans _ _ _ (G.sub _ _ hw1) (h3.2.1 hjT))) ?_⟩) h2
      rw [Array.setIfInBounds_comm _ _ hji]
      exact h3.2.2
def wpTakes (P : Program) (md : Region.Mode) (ops : List Oper) (Q : Exit → Act → World → Prop) (R E : World → World → Prop) (T : List Nat) (fuel : Nat) : List (Nat × Bool) → Array Bool → Act → World → Prop
  | [], listed, a, w => wpAnyE P md ops.toArray Q R E T fuel listed a w
  | (i, p) :: l, listed, a, w => ∃ o v, ops[i]? = some o ∧ YieldsE P ops.toArray R E p w o v a ∧ wpTakes P md ops Q R E T fuel l (listed.setIfInBounds i true) (a.put o.dst v) w
def Region.takesB (md : Region.Mode) (ops : Array Oper) (T : List Nat) : List (Nat × Bool) → Array Bool → Bool
  | [], _ => true
  | (i, p) :: l, listed => (Region.ready md ops listed).contains i && Region.free md ops listed i && (p || Region.waitB md ops T listed i) && Region.takesB md ops T l (listed.setIfInBounds i true)
theorem wpAnyE_takes (G : Grow2 R E) {T : List Nat} {ops : List Oper} (hs : Region.noSelect ops.toArray = true) (hQ : Steady Q) (fuel : Nat) : ∀ (l : List (Nat × Bool)) (listed : Array Bool) (a : Act) (w : World),
    Region.takesB md ops.toArray T l listed = true → wpTakes P md ops Q R E T fuel l listed a w → wpAnyE P md ops.toArray Q R E T (l.length + fuel) listed a w
  | [], listed, a, w, _, h => by simpa [wpTakes] using h
  | (i, p) :: l, listed, a, w, hB, h => by
    simp only [Region.takesB, Bool.and_eq_true, Bool.or_eq_true] at hB
    obtain ⟨o, v, ho, hy, hK⟩ := h
    have ho' : ops.toArray[i]? = some o := by simpa using ho
    rw [show ((i, p) :: l).length + fuel = (l.length + fuel) + 1 by simp; omega]
    exact wpAnyE_first G p ho' (Region.noSelect_spec hs) (fun c a w => hQ c a o.dst v w) (l.length + fuel) listed a w (Region.free_spec ho' hB.1.1.2) (hB.1.2.imp id fun h j oj hj hoj hun => Region.waitB_spec h j oj hj hoj hun) (by simpa using hB.1.1.1) hy (wpAnyE_takes G hs hQ fuel l _ _ _ hB.2 hK)
theorem wp_region_takes (G : Grow2 R E) (T : List Nat) (l : List (Nat × Bool)) (fuel : Nat) {id : Nat} {ops : List Oper} {a : Act} {w : World} (hm : P.follows .mixedOrders = true) (hs : Region.noSelect ops.toArray = true)
    (hl : l.length + fuel = ops.length) (hB : Region.takesB .any ops.toArray T l (Array.replicate ops.length false) = true) (hQ : Steady Q)
    (h : wpTakes P .any ops Q R E T fuel l (Array.replicate ops.length false) a w.drew) : (Code.region id ops.toArray true).wp P Q a w := by
  refine wp_region_any hm (wpAny_of_E G (T := T) _ _ _ _ ?_)
  have := wpAnyE_takes G hs hQ fuel l _ a _ hB h
  rw [hl] at this
  simpa using this
theorem wpTakes_take {T : List Nat} {ops : List Oper} {fuel i : Nat} {l : List (Nat × Bool)} {listed : Array Bool} {a : Act} {w : World} {o : Oper} (v : Value) (hi : ops[i]? = some o)
    (hy : ∀ w1, R w w1 → KGoal P ops.toArray E w1 o v a) (h : wpTakes P md ops Q R E T fuel l (listed.setIfInBounds i true) (a.put o.dst v) w) : wpTakes P md ops Q R E T fuel ((i, false) :: l) listed a w := ⟨o, v, hi, fun w1 h1 => hy w1 (h1.resolve_left (by simp)), h⟩
/-- One that hangs on no world. -/
theorem wpTakes_pure {T : List Nat} {ops : List Oper} {fuel i : Nat} {l : List (Nat × Bool)} {listed : Array Bool} {a : Act} {w : World} {o : Oper} (v : Value) (hi : ops[i]? = some o)
    (hy : ∀ w1, KGoal P ops.toArray E w1 o v a) (h : wpTakes P md ops Q R E T fuel l (listed.setIfInBounds i true) (a.put o.dst v) w) : wpTakes P md ops Q R E T fuel ((i, true) :: l) listed a w := ⟨o, v, hi, fun w1 _ => hy w1, h⟩
theorem wpTakes_done {T : List Nat} {ops : List Oper} {fuel : Nat} {listed : Array Bool} {a : Act} {w : World} (h : wpAnyE P md ops.toArray Q R E T fuel listed a w) : wpTakes P md ops Q R E T fuel [] listed a w := h
/-- One that yields the same in every later world, taken now. -/
theorem wpAnyE_take (G : Grow2 R E) {T : List Nat} {ops : List Oper} {fuel : Nat} {listed : Array Bool} {a : Act} {w : World} (i : Nat) {o : Oper} {v : Value} (hs : Region.noSelect ops.toArray = true) (hQ : Steady Q) (hi : ops[i]? = some o)
    (hB : ((Region.ready md ops.toArray listed).contains i && Region.free md ops.toArray listed i && Region.waitB md ops.toArray T listed i) = true)
    (hy : ∀ w1, R w w1 → KGoal P ops.toArray E w1 o v a) (h : wpAnyE P md ops.toArray Q R E T fuel (listed.setIfInBounds i true) (a.put o.dst v) w) : wpAnyE P md ops.toArray Q R E T (fuel + 1) listed a w := by
  simp only [Bool.and_eq_true] at hB
  have ho' : ops.toArray[i]? = some o := by simpa using hi
  exact wpAnyE_first G false ho' (Region.noSelect_spec hs) (fun c a w => hQ c a o.dst v w) fuel listed a w (Region.free_spec ho' hB.1.2) (.inr fun j oj hj hoj hun => Region.waitB_spec hB.2 j oj hj hoj hun) (by simpa using hB.1.1) (fun w1 h1 => hy w1 (h1.resolve_left (by simp))) h
theorem wpAnyE_pure (G : Grow2 R E) {T : List Nat} {ops : List Oper} {fuel : Nat} {listed : Array Bool} {a : Act} {w : World} (i : Nat) {o : Oper} {v : Value} (hs : Region.noSelect ops.toArray = true) (hQ : Steady Q) (hi : ops[i]? = some o)
    (hB : ((Region.ready md ops.toArray listed).contains i && Region.free md ops.toArray listed i) = true)
    (hy : ∀ w1, KGoal P ops.toArray E w1 o v a) (h : wpAnyE P md ops.toArray Q R E T fuel (listed.setIfInBounds i true) (a.put o.dst v) w) : wpAnyE P md ops.toArray Q R E T (fuel + 1) listed a w := by
  simp only [Bool.and_eq_true] at hB
  have ho' : ops.toArray[i]? = some o := by simpa using hi
  exact wpAnyE_first G true ho' (Region.noSelect_spec hs) (fun c a w => hQ c a o.dst v w) fuel listed a w (Region.free_spec ho' hB.2) (.inl rfl) (by simpa using hB.1) (fun w1 _ => hy w1) h
/-- All that may come up. -/
theorem wpAnyE_fork {T : List Nat} {ops : List Oper} {fuel : Nat} {listed : Array Bool} {a : Act} {w : World} (l : List Nat) (hl : Region.ready md ops.toArray listed = l) (hne : l ≠ [])
    (h : ∀ i ∈ l, ∃ o, ops[i]? = some o ∧ ∀ w1, E w w1 → ∀ K : Act → World → Prop, (∀ a' w', (i ∉ T → R w1 w') → wpAnyE P md ops.toArray Q R E T fuel (listed.setIfInBounds i true) a' w' → K a' w') →
      if Region.wanted o (yielded ops.toArray a.tmps) = true then o.wp P a w1 K Q else K (a.put o.dst undef) w1) : wpAnyE P md ops.toArray Q R E T (fuel + 1) listed a w := by
  intro w1 hw1
  rw [hl]
  refine ⟨fun e => absurd e hne, fun i hi => ?_⟩
  obtain ⟨o, ho, h'⟩ := h i hi
  have h' := h' w1 hw1 (fun a' w' => (i ∉ T → R w1 w') ∧ wpAnyE P md ops.toArray Q R E T fuel (listed.setIfInBounds i true) a' w') (fun a' w' hR hK => ⟨hR, hK⟩)
  have hi' : ops.toArray[i]? = some o := by simpa using ho
  unfold wpOp
  simp only [hi']
  split
  · rename_i hw; rw [if_pos hw] at h'; exact .inl h'
  · rename_i hw; rw [if_neg hw] at h'; exact h'
theorem wpAnyE_end {T : List Nat} {ops : List Oper} {listed : Array Bool} {a : Act} {w : World} (hl : Region.ready md ops.toArray listed = []) (h : ∀ w1, E w w1 → Q .normal a w1) : wpAnyE P md ops.toArray Q R E T 0 listed a w := ⟨hl, h⟩
end

/-- Worlds that keep all below a block that there is. -/
def KeepB (B : Nat) (w w' : World) : Prop := B ≤ w.heap.size → Below B w w'
theorem KeepB.grow (B : Nat) : Grow2 (KeepB B) Newer :=
  ⟨⟨fun _ _ => Below.refl _ _, fun _ _ _ h h' hB => Below.trans (h hB) (h' (Nat.le_trans hB (h hB).size))⟩, Newer.grow, fun _ _ h hB => Below.mono h hB⟩
/-- Worlds that keep a block that there is. -/
def KeepG (g : Nat) (w w' : World) : Prop := g < w.heap.size → w'.heap[g]? = w.heap[g]? ∧ w.heap.size ≤ w'.heap.size
theorem KeepG.grow (g : Nat) : Grow2 (KeepG g) Newer :=
  ⟨⟨fun _ _ => ⟨rfl, Nat.le_refl _⟩, fun _ _ _ h h' hB => ⟨((h' (Nat.lt_of_lt_of_le hB (h hB).2)).1).trans (h hB).1, Nat.le_trans (h hB).2 (h' (Nat.lt_of_lt_of_le hB (h hB).2)).2⟩⟩, Newer.grow, fun _ _ h hB => ⟨h.block g hB, h.size⟩⟩
theorem KeepG.blk {g : Nat} {t : TypeId} {cs : Array Value} {w w' : World} (h : KeepG g w w') (hb : Blk w g t cs) : Blk w' g t cs := (h hb.lt).1.trans hb
section
variable {S0 : Nat → Prop} {w0 w w' : World} {pre post : List Thing}
theorem Now.pushNone {L : List Thing} (h : Now S0 w0 w L) : Now S0 w0 w (Thing.none_ :: L) := h.push (Below.refl _ _) (S' := fun _ => False) (fun _ h => h) (fun _ h => h.elim)
/-- An empty row is built in a place. -/
theorem Now.built (h : Now S0 w0 w (pre ++ Thing.none_ :: post)) (t : TypeId) (size : Nat) : Now S0 w0 (w.alloc (.cells #[] t)) (pre ++ Thing.row t size (.slice (some ⟨w.heap.size, 0, none⟩) 0 0) 0 [] :: post) := by
  obtain ⟨S, _, _, h2⟩ := h.at_
  exact h2 _ [Thing.row t size (.slice (some ⟨w.heap.size, 0, none⟩) 0 0) 0 []] ⟨fun k => k = w.heap.size, ⟨fun k => k = w.heap.size, fun _ => False, ⟨World.ownsRow_lit (e := t) (base := 0) (size := size) w #[] 0 (Nat.zero_le _) (by simp [maxLen]) (by simp), fun k => by simp [Value.ownBlock, eq_comm]⟩, fun _ h => h, fun _ _ h => h, fun _ => ⟨.inl, fun h => h.elim id False.elim⟩⟩, (Fr.refl _ w).alloc _, fun k hk => .inr (Nat.le_of_eq hk.symm)⟩
theorem Sep.grownR {t : TypeId} {size n : Nat} {v : Value} {xs : List Value} (h : Sep w0 w (pre ++ Thing.row t size v n xs :: post)) (hg : w.grownBy w' v.ownBlock) : Below w0.heap.size w w' := by
  obtain ⟨S, h1, h2, _⟩ := h.at_
  exact (Fr.of_grown (S := S) hg (fun k e => (h1.2 k).2 e)).below h.size (fun k _ hk => (h2 k hk).resolve_left id)
end
end Go.Proofs.YthlbciinpidedaaGreat

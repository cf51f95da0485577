/- Rows of the call's own beside its disks: what a disk's call turns is its own. -/
import Derived.Test.YtofoneapfokdjaaOwn
namespace Go.Proofs.Ytofoneapfokdjaa
set_option linter.unusedSimpArgs false
set_option linter.unusedVariables false
open Go.RowKit

/-- The blocks of the disks l. -/
def feet (w : World) (l : List (Nat × Dsk)) (k : Nat) : Prop := ∃ p ∈ l, ∃ b v, DskAt w p.1 b v p.2 ∧ foot p.1 b v k
/-- A call that turned the disks l to l', and nothing else that there was. -/
structure Turn (w w' : World) (l l' : List (Nat × Dsk)) : Prop where
  fr : Fr (feet w l) w w'
  new : ∀ k, feet w' l' k → feet w l k ∨ w.heap.size ≤ k

section
variable {B : Nat} {W w w' w'' : World} {l l' l'' pre post : List (Nat × Dsk)} {g : Nat} {d d' : Dsk}
theorem DskAt.same {b b' : Nat} {v v' : Value} (h : DskAt w g b v d) (h' : DskAt w g b' v' d') : b = b' ∧ v = v' := by
  have h1 := h.blk
  have h2 := h'.blk
  unfold Blk at h1 h2
  rw [h1] at h2
  simp only [Option.some.injEq, Obj.cells.injEq] at h2
  have h3 := h2.1
  simp at h3
  exact ⟨h3.2.2.2.1, h3.2.2.2.2⟩
theorem feet_lt {k : Nat} (h : feet w l k) : k < w.heap.size := by
  obtain ⟨p, _, b, v, hD, hk⟩ := h
  exact hD.lt hk
theorem feet_base (h : Disks B W w l) {k : Nat} (hk : feet w l k) : B ≤ k := by
  obtain ⟨L, e, h1, h2, h3, h4, h5⟩ := h
  obtain ⟨p, hp, b, v, hD, hk⟩ := hk
  rw [← e] at hp
  obtain ⟨t, ht, rfl⟩ := List.mem_map.1 hp
  obtain ⟨rfl, rfl⟩ := DskAt.same (h1 t ht) hD
  exact h3 t ht k hk
theorem Disks.split2 (h : Disks B W w (pre ++ (g, d) :: post)) : ∃ b v, DskAt w g b v d ∧
    ∀ w' v' d', DskAt w' g b v' d' → Fr (foot g b v) w w' → (∀ k, foot g b v' k → foot g b v k ∨ w.heap.size ≤ k) → Disks B W w' (pre ++ (g, d') :: post) ∧ Turn w w' (pre ++ (g, d) :: post) (pre ++ (g, d') :: post) := by
  have hh := h
  obtain ⟨L, e, h1, h2, h3, h4, h5⟩ := h
  obtain ⟨b, v, hs, hsp⟩ := hh.split
  obtain ⟨L1, L2, rfl, e1, e2⟩ := List.map_eq_append_iff.1 e
  obtain ⟨s, L3, rfl, e3, e4⟩ := List.map_eq_cons_iff.1 e2
  obtain ⟨g0, b0, v0, d0⟩ := s
  simp only [Prod.mk.injEq] at e3
  obtain ⟨rfl, rfl⟩ := e3
  have hs0 : DskAt w g0 b0 v0 d0 := h1 ⟨g0, b0, v0, d0⟩ (by simp)
  obtain ⟨rfl, rfl⟩ := hs0.same hs
  refine ⟨b0, v0, hs, fun w' v' d' hD hF hn => ⟨hsp w' b0 v' d' rfl hD hF hn, hF.mono (fun k _ hk => ⟨(g0, d0), by simp, b0, v0, hs, hk⟩), fun k hk => ?_⟩⟩
  rw [List.pairwise_append, List.pairwise_cons] at h2
  obtain ⟨p1, ⟨p2, p3⟩, p4⟩ := h2
  obtain ⟨p, hp, b2, v2, hD2, hk2⟩ := hk
  rw [← e1, ← e4] at hp ⊢
  rcases List.mem_append.1 hp with hp | hp
  · obtain ⟨t, ht, rfl⟩ := List.mem_map.1 hp
    have ht1 := h1 t (by simp [ht])
    have ht2 := DskAt.keep ht1 hF (fun k hk hk' => p4 t ht ⟨g0, b0, v0, d0⟩ (by simp) k hk hk')
    obtain ⟨rfl, rfl⟩ := DskAt.same ht2 hD2
    exact .inl ⟨(t.g, t.d), List.mem_append_left _ hp, t.b, t.v, ht1, hk2⟩
  · rcases List.mem_cons.1 hp with rfl | hp
    · obtain ⟨rfl, rfl⟩ := DskAt.same hD hD2
      rcases hn k hk2 with h | h
      · exact .inl ⟨(g0, d0), by simp, b0, v0, hs, h⟩
      · exact .inr h
    · obtain ⟨t, ht, rfl⟩ := List.mem_map.1 hp
      have ht1 := h1 t (by simp [ht])
      have ht2 := DskAt.keep ht1 hF (fun k hk hk' => p2 t ht k hk' hk)
      obtain ⟨rfl, rfl⟩ := DskAt.same ht2 hD2
      exact .inl ⟨(t.g, t.d), List.mem_append_right _ (List.mem_cons_of_mem _ hp), t.b, t.v, ht1, hk2⟩
/-- Whatever keeps the disks' cells keeps their feet. -/
theorem feet_keep (h : Disks B W w l) {S : Nat → Prop} (hF : Fr S w w') (hS : ∀ k, feet w l k → ¬ S k) {k : Nat} (hk : feet w' l k) : feet w l k := by
  obtain ⟨L, e, h1, h2, h3, h4, h5⟩ := h
  obtain ⟨p, hp, b, v, hD, hk⟩ := hk
  have hp' := hp
  rw [← e] at hp'
  obtain ⟨t, ht, rfl⟩ := List.mem_map.1 hp'
  have ht1 := h1 t ht
  have ht2 := DskAt.keep ht1 hF (fun k hk => hS k ⟨(t.g, t.d), hp, t.b, t.v, ht1, hk⟩)
  obtain ⟨rfl, rfl⟩ := DskAt.same ht2 hD
  exact ⟨(t.g, t.d), hp, t.b, t.v, ht1, hk⟩
theorem Disks.kept (h : Disks B W w l) {S : Nat → Prop} (hF : Fr S w w') (hS : ∀ k, feet w l k → ¬ S k) (hB : ∀ k, k < w.heap.size → S k → B ≤ k) : Disks B W w' l :=
  h.fr hF hB (fun L h1 e s hs k hk => hS k ⟨(s.g, s.d), by rw [← e]; exact List.mem_map_of_mem hs, s.b, s.v, h1 s hs, hk⟩)
theorem Turn.below (h : Disks B W w l) (hb : Below w.heap.size w w') : Turn w w' l l :=
  ⟨Fr.of_below hb, fun _ hk => .inl (feet_keep h (S := fun k => w.heap.size ≤ k) (Fr.of_below hb) (fun k hk hn => by have := feet_lt hk; omega) hk)⟩

theorem TWrite (pre post : List (Nat × Dsk)) (h : Disks B W w (pre ++ (g, d) :: post)) (i : Int) (s : ByteArray) (hp : d.pend.length ≤ 1000000000) :
    Calls Try.prog 12 #[.pointer (some ⟨g, 0, none⟩), .int .i64 i, .string s] w fun e w' => e = .returned (.int .i64 (d.writeE i s)) ∧ Disks B W w' (pre ++ (g, d.writeS i s) :: post) ∧ Turn w w' (pre ++ (g, d) :: post) (pre ++ (g, d.writeS i s) :: post) := by
  obtain ⟨b, v, hD, hk⟩ := h.split2
  exact (Write_all g b v d i s w hD hp).mono fun e w' ⟨he, v', h1, h2, h3⟩ => ⟨he, hk w' v' _ h1 h2 h3⟩
theorem TFlush (pre post : List (Nat × Dsk)) (h : Disks B W w (pre ++ (g, d) :: post)) (hp : d.pend.length ≤ 1000000000) :
    Calls Try.prog 13 #[.pointer (some ⟨g, 0, none⟩)] w fun e w' => e = .returned (.int .i64 d.flushE) ∧ Disks B W w' (pre ++ (g, d.flushS) :: post) ∧ Turn w w' (pre ++ (g, d) :: post) (pre ++ (g, d.flushS) :: post) := by
  obtain ⟨b, v, hD, hk⟩ := h.split2
  exact (Flush_all g b v d w hD hp).mono fun e w' ⟨he, v', h1, h2, h3⟩ => ⟨he, hk w' v' _ h1 h2 h3⟩
theorem TCrash (pre post : List (Nat × Dsk)) (h : Disks B W w (pre ++ (g, d) :: post)) (A : Option Addr) (n c : Nat) (bs : List Bool) (torn at_ : Int) (hG : d.Good) (hp : d.pend.length ≤ 1000000000) (hk : ∀ S : Nat → Prop, (∀ k, S k → feet w (pre ++ (g, d) :: post) k) → Bools w S A n bs) :
    Calls Try.prog 15 #[.pointer (some ⟨g, 0, none⟩), .slice A n c, .int .i64 torn, .int .i64 at_] w fun e w' => e = .returned (.tuple #[]) ∧ Disks B W w' (pre ++ (g, d.crash bs torn at_) :: post) ∧ Turn w w' (pre ++ (g, d) :: post) (pre ++ (g, d.crash bs torn at_) :: post) := by
  obtain ⟨b, v, hD, hk'⟩ := h.split2
  exact (Crash_any g b v d A n c bs torn at_ w hD hG hp (hk _ fun k hk => ⟨(g, d), by simp, b, v, hD, hk⟩)).mono fun e w' ⟨he, h1, h2⟩ => ⟨he, hk' w' _ _ h1 h2 (fun k hk => by
    rcases hk with hk | hk | hk
    · exact .inl (.inl hk)
    · exact .inl (.inr (.inl hk))
    · simp [Value.ownBlock] at hk)⟩
theorem TRead (pre post : List (Nat × Dsk)) (h : Disks B W w (pre ++ (g, d) :: post)) (i : Int) (hp : d.pend.length ≤ 1000000000) :
    Calls Try.prog 16 #[.pointer (some ⟨g, 0, none⟩), .int .i64 i] w fun e w' => e = .returned (.tuple #[.string (d.readV i), .int .i64 (d.readE i)]) ∧ Disks B W w' (pre ++ (g, d) :: post) ∧ Turn w w' (pre ++ (g, d) :: post) (pre ++ (g, d) :: post) := by
  obtain ⟨b, v, hD, _⟩ := h.split
  exact (Read_all g b v d i w hD hp).mono fun e w' ⟨he, hb⟩ => ⟨he, h.below hb, Turn.below h hb⟩
end

/-- A row of the call's own, apart from all disks. -/
structure Room (w : World) (l : List (Nat × Dsk)) (B : Nat) (t : TypeId) (v : Value) (n : Nat) (xs : List Value) : Prop where
  row : w.ownsRow B t 1 v n xs
  clear : ∀ k, v.ownBlock = some k → ¬ feet w l k

section
variable {B : Nat} {W w w' : World} {l l' : List (Nat × Dsk)} {t t' : TypeId} {v v' u : Value} {n n' m : Nat} {xs xs' ys : List Value}
theorem Room.turn (h : Room w l B t v n xs) (ht : Turn w w' l l') : Room w' l' B t v n xs :=
  ⟨ht.fr.own h.row h.clear, fun k hk hf => by
    rcases ht.new k hf with h1 | h1
    · exact h.clear k hk h1
    · have := (h.row.lt k hk).2; omega⟩
theorem Room.below (h : Room w l B t v n xs) (hD : Disks B W w l) (hb : Below w.heap.size w w') : Room w' l B t v n xs := h.turn (Turn.below hD hb)
theorem Room.alloc (h : Room w l B t v n xs) (hD : Disks B W w l) (o : Obj) : Room (w.alloc o) l B t v n xs := h.below hD ((Below.refl _ _).alloc (Nat.le_refl _) o)
theorem Room.drew (h : Room w l B t v n xs) (hD : Disks B W w l) : Room w.drew l B t v n xs := h.below hD ⟨rfl, rfl, rfl, Nat.le_refl _, fun _ _ => rfl⟩
theorem Room.grown (h : Room w l B t v n xs) (hD : Disks B W w l) (ho : w'.ownsRow B t 1 v' n' xs') (hg : w.grownBy w' v.ownBlock) (hn : v'.ownBlock = v.ownBlock ∨ ∃ q, w.heap.size ≤ q ∧ v'.ownBlock = some q) : Disks B W w' l ∧ Room w' l B t v' n' xs' := by
  have hF : Fr (fun k => v.ownBlock = some k) w w' := Fr.of_grown hg (fun k e => e)
  have hS : ∀ k, feet w l k → ¬ v.ownBlock = some k := fun k hf e => h.clear k e hf
  refine ⟨hD.kept hF hS (fun k _ e => (h.row.lt k e).1), ho, fun k hk hf => ?_⟩
  have hf' := feet_keep hD hF hS hf
  rcases hn with e | ⟨q, hq, e⟩
  · exact h.clear k (e ▸ hk) hf'
  · rw [e] at hk; obtain rfl := Option.some.inj hk
    have := feet_lt hf'; omega
theorem Room.other (h : Room w l B t u m ys) (hv : Room w l B t' v n xs) (hD : Disks B W w l) (hg : w.grownBy w' v.ownBlock) (hne : ∀ k, u.ownBlock = some k → v.ownBlock ≠ some k) : Room w' l B t u m ys := by
  have hF : Fr (fun k => v.ownBlock = some k) w w' := Fr.of_grown hg (fun k e => e)
  exact ⟨hF.own h.row (fun k hk => hne k hk), fun k hk hf => h.clear k hk (feet_keep hD hF (fun k hf e => hv.clear k e hf) hf)⟩
theorem Room.new (hD : Disks B W w l) (t : TypeId) (xs : Array Value) (n : Nat) (hxs : xs.size = n) (hmx : n ≤ maxLen) : Room (w.alloc (.cells xs t)) l B t (.slice (some ⟨w.heap.size, 0, none⟩) n n) n xs.toList :=
  ⟨World.ownsRow_lit (e := t) (base := B) (size := 1) w xs n hD.size hmx (by omega), fun k hk hf => by
    simp [Value.ownBlock] at hk
    subst hk
    have := feet_lt (feet_keep hD (S := fun k => w.heap.size ≤ k) ((Fr.refl _ w).alloc _) (fun k hk hn => by have := feet_lt hk; omega) hf)
    omega⟩
theorem Room.slice (h : Room w l B t v n xs) : ∃ A c, v = .slice A n c ∧ Reads w w.heap.size 1 A n xs := own_slice h.row
theorem Room.bools {A : Option Addr} {c : Nat} {bs : List Bool} (h : Room w l B t (.slice A n c) n (bs.map Value.bool)) : ∀ S : Nat → Prop, (∀ k, S k → feet w l k) → Bools w S A n bs := by
  intro S hS
  obtain ⟨A', c', e, hR⟩ := h.slice
  simp only [Value.slice.injEq, true_and] at e
  obtain ⟨rfl, _⟩ := e
  refine ⟨by have := hR.1; simpa using this, fun k hk => ?_⟩
  obtain ⟨ad, x, rfl, _, hx, hc⟩ := hR.at_ hk
  refine ⟨ad, rfl, fun hs => h.clear _ rfl ?_, ?_⟩
  · rw [block_of_add] at hs; exact hS _ hs
  · rw [hc, ← hx, List.getElem?_map]
    have hk' : k < bs.length := by have := hR.1; simp at this; omega
    rw [List.getElem?_eq_getElem hk']; rfl
/-- A row that the call was handed lies below all of its own. -/
theorem Bools.arg {A : Option Addr} {bs : List Bool} (hR : Reads W B 1 A n (bs.map Value.bool)) (hD : Disks B W w l) : ∀ S : Nat → Prop, (∀ k, S k → feet w l k) → Bools w S A n bs := by
  intro S hS
  refine ⟨by have := hR.1; simpa using this, fun k hk => ?_⟩
  obtain ⟨ad, x, rfl, hB, hx, hc⟩ := hR.at_ hk
  refine ⟨ad, rfl, fun hs => ?_, ?_⟩
  · rw [block_of_add] at hs; have := feet_base hD (hS _ hs); omega
  · rw [hD.base.cell (by rw [block_of_add]; exact hB), hc, ← hx, List.getElem?_map]
    have hk' : k < bs.length := by have := hR.1; simp at this; omega
    rw [List.getElem?_eq_getElem hk']; rfl
theorem Bools.nil (w : World) (l : List (Nat × Dsk)) : ∀ S : Nat → Prop, (∀ k, S k → feet w l k) → Bools w S none 0 [] := fun _ _ => ⟨rfl, fun k hk => by omega⟩
end
end Go.Proofs.Ytofoneapfokdjaa

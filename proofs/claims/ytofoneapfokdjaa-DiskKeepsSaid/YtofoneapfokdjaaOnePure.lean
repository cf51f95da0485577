/- A block of the call's own beside its disks; and the plain law of DiskOne. -/
import Derived.Test.YtofoneapfokdjaaSwapPure
import Derived.Test.YtofoneapfokdjaaWalkDiskAll
namespace Go.Proofs.Ytofoneapfokdjaa
open Go.RowKit

/-- A block of the call's own, of just these cells, apart from all disks. -/
structure Pin (w : World) (l : List (Nat × Dsk)) (B : Nat) (r : Nat) (t : TypeId) (cs : Array Value) : Prop where
  blk : Blk w r t cs
  clear : ¬ feet w l r
  base : B ≤ r
section
variable {B : Nat} {W w w' : World} {l l' : List (Nat × Dsk)} {r : Nat} {t : TypeId} {cs : Array Value}
theorem Pin.turn (h : Pin w l B r t cs) (ht : Turn w w' l l') : Pin w' l' B r t cs :=
  ⟨ht.fr.blk h.blk h.clear, fun hf => by
    rcases ht.new r hf with h1 | h1
    · exact h.clear h1
    · have := h.blk.lt; omega, h.base⟩
theorem Pin.below (h : Pin w l B r t cs) (hD : Disks B W w l) (hb : Below w.heap.size w w') : Pin w' l B r t cs := h.turn (Turn.below hD hb)
theorem Pin.alloc (h : Pin w l B r t cs) (hD : Disks B W w l) (o : Obj) : Pin (w.alloc o) l B r t cs := h.below hD ((Below.refl _ _).alloc (Nat.le_refl _) o)
theorem Pin.drew (h : Pin w l B r t cs) (hD : Disks B W w l) : Pin w.drew l B r t cs := h.below hD ⟨rfl, rfl, rfl, Nat.le_refl _, fun _ _ => rfl⟩
theorem Pin.new (hD : Disks B W w l) (t : TypeId) (cs : Array Value) : Pin (w.alloc (.cells cs t)) l B w.heap.size t cs :=
  ⟨Blk.new w t cs, fun hf => by
    have := feet_lt (feet_keep hD (S := fun k => w.heap.size ≤ k) ((Fr.refl _ w).alloc _) (fun k hk hn => by have := feet_lt hk; omega) hf)
    omega, hD.size⟩
theorem Pin.set (h : Pin w l B r t cs) (hD : Disks B W w l) (i : Nat) (u : Value) : Disks B W (w.setCell ⟨r, i, none⟩ u) l ∧ Pin (w.setCell ⟨r, i, none⟩ u) l B r t (cs.setIfInBounds i u) := by
  have hF : Fr (fun k => k = r) w (w.setCell ⟨r, i, none⟩ u) := Fr.setCell (Fr.refl (fun k => k = r) w) (p := ⟨r, i, none⟩) (fun _ => rfl) u
  have hS : ∀ k, feet w l k → ¬ k = r := fun k hf e => h.clear (e ▸ hf)
  exact ⟨hD.kept hF hS (fun k _ e => e ▸ h.base), h.blk.set_ i u, fun hf => h.clear (feet_keep hD hF hS hf), h.base⟩
end

theorem write_facts4 (d : Dsk) (N i : Int) (s : ByteArray) (hn : d.n = N) (hl : d.lim = false) (hi : 0 ≤ i ∧ i < N) (hs : s.size = 128) : d.writeE i s = 0 ∧ (d.writeS i s).n = N ∧ (d.writeS i s).lim = false ∧ (d.writeS i s).pend = d.pend ++ [(i, s)] ∧ (d.writeS i s).held = d.held := by
  have he : d.writeE i s = 0 := by
    unfold Dsk.writeE Dsk.dead
    rw [if_pos (by rw [hn]; exact hi), if_pos hs, hl]; rfl
  refine ⟨he, ?_⟩
  unfold Dsk.writeS
  rw [if_pos he]
  exact ⟨hn, hl, rfl, rfl⟩
/-- What was written last is read. -/
theorem read_last (d : Dsk) (i : Int) (s : ByteArray) (l : List (Int × ByteArray)) (h : d.pend = l ++ [(i, s)]) : d.read i = s := by
  unfold Dsk.read
  rw [h, List.reverse_append, List.reverse_singleton, List.singleton_append, List.find?_cons_of_pos (by simp)]
  rfl

def oneF (xs : List Int) (j : Nat) : Int × ByteArray := ((xs[j]?.getD 0) % 4, full (chr ((j : Int) + 1)))
def oneD (xs : List Int) : Nat → Dsk
  | 0 => newDsk 4
  | k + 1 => (oneD xs k).writeS (oneF xs k).1 (oneF xs k).2
def oneW (xs : List Int) (keep : List Bool) : Nat → Int → ByteArray
  | 0 => fun _ => zeros
  | k + 1 => fun i => if (oneF xs k).1 = i ∧ keep[k]?.getD false = true then (oneF xs k).2 else oneW xs keep k i
structure One (d : Dsk) (k : Nat) (f : Nat → Int × ByteArray) : Prop where
  n : d.n = 4
  lim : d.lim = false
  pend : d.pend = (List.range k).map f
  held : d.held = fun _ => none
  good : d.Good
theorem oneF_in (xs : List Int) (k : Nat) : 0 ≤ (oneF xs k).1 ∧ (oneF xs k).1 < 4 := by unfold oneF; simp only; omega
theorem oneF_size (xs : List Int) (k : Nat) : (oneF xs k).2.size = 128 := full_size (chr ((k : Int) + 1))
theorem oneD_facts (xs : List Int) (k : Nat) : One (oneD xs k) k (oneF xs) := by
  induction k with
  | zero => exact ⟨rfl, rfl, rfl, rfl, Dsk.Good.new 4⟩
  | succ k ih =>
    obtain ⟨h1, h2, h3, h4, h5⟩ := ih
    obtain ⟨_, g1, g2, g3, g4⟩ := write_facts4 (oneD xs k) 4 (oneF xs k).1 (oneF xs k).2 h1 h2 (oneF_in xs k) (oneF_size xs k)
    exact ⟨g1, g2, by rw [show (oneD xs (k + 1)).pend = _ from g3, h3, List.range_succ, List.map_append]; rfl, g4.trans h4, h5.writeS _ _⟩
theorem oneD_write (xs : List Int) (k : Nat) : (oneD xs k).writeE (oneF xs k).1 (oneF xs k).2 = 0 ∧ (oneD xs k).writeS (oneF xs k).1 (oneF xs k).2 = oneD xs (k + 1) ∧ (oneD xs (k + 1)).readE (oneF xs k).1 = 0 ∧ (oneD xs (k + 1)).readV (oneF xs k).1 = (oneF xs k).2 := by
  obtain ⟨h1, h2, h3, _⟩ := oneD_facts xs k
  obtain ⟨g0, g1, g2, g3, g4⟩ := write_facts4 (oneD xs k) 4 (oneF xs k).1 (oneF xs k).2 h1 h2 (oneF_in xs k) (oneF_size xs k)
  have hin : 0 ≤ (oneF xs k).1 ∧ (oneF xs k).1 < (oneD xs (k + 1)).n := by rw [show (oneD xs (k + 1)).n = 4 from g1]; exact oneF_in xs k
  exact ⟨g0, rfl, (readV_in hin).2, (readV_in hin).1.trans (read_last _ _ _ _ (show (oneD xs (k + 1)).pend = _ from g3))⟩
theorem one_read (xs : List Int) (keep : List Bool) (k : Nat) (i : Int) (hi : 0 ≤ i ∧ i < 4) : ((oneD xs k).crash keep (-1) 128).readE i = 0 ∧ ((oneD xs k).crash keep (-1) 128).readV i = oneW xs keep k i := by
  have hO := oneD_facts xs k
  obtain ⟨a1, a2⟩ := crash_readV (d := oneD xs k) keep (-1) 128 (i := i) (by rw [hO.n]; exact hi)
  refine ⟨a2, a1.trans ?_⟩
  have hlen : (oneD xs k).pend.length = k := by rw [hO.pend]; simp
  have key : ∀ j, j ≤ k → ((oneD xs k).crashTo keep (-1) 128 (oneD xs k).pend j).holds i = oneW xs keep j i := by
    intro j
    induction j with
    | zero => intro _; show ((oneD xs k).held i).getD zeros = zeros; rw [hO.held]; rfl
    | succ j ih =>
      intro hj
      have hp : (oneD xs k).pend[j]? = some (oneF xs j) := by rw [hO.pend, List.getElem?_map, List.getElem?_range (by omega)]; rfl
      rw [holds_crashTo _ _ _ _ _ _ i hp, ih (by omega)]
      unfold stepS
      show _ = if (oneF xs j).1 = i ∧ keep[j]?.getD false = true then (oneF xs j).2 else oneW xs keep j i
      by_cases h : (oneF xs j).1 = i
      · rw [if_pos h]
        have e : keep[j]?.getD false = true ↔ keep[j]? = some true := by cases keep[j]? <;> simp
        by_cases hb : keep[j]? = some true
        · rw [if_pos hb, if_pos ⟨h, e.2 hb⟩]
        · rw [if_neg hb, if_neg (by omega), if_neg (fun hh => hb (e.1 hh.2))]
      · rw [if_neg h, if_neg (fun hh => h hh.1)]
  rw [hlen]
  exact key k (Nat.le_refl _)
end Go.Proofs.Ytofoneapfokdjaa

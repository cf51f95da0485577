/- Unlike sectors, in which order they are written: the plain law of DiskSwap. -/
import Derived.Test.YtofoneapfokdjaaDiskPure
namespace Go.Proofs.Ytofoneapfokdjaa

/-- A sector that no pending write names stays. -/
theorem crashTo_none (d : Dsk) (bs : List Bool) (t a : Int) (l : List (Int × ByteArray)) (i : Int) : ∀ k, k ≤ l.length → (∀ j p, j < k → l[j]? = some p → p.1 ≠ i) → (d.crashTo bs t a l k).holds i = d.holds i := by
  intro k
  induction k with
  | zero => intro _ _; rfl
  | succ k ih =>
    intro hk hn
    have hp : l[k]? = some l[k] := List.getElem?_eq_getElem (by omega)
    rw [holds_crashTo d bs t a l k i hp, ih (by omega) (fun j p hj => hn j p (by omega))]
    unfold stepS
    rw [if_neg (hn k _ (by omega) hp)]
/-- A sector that one pending write names is as that write leaves it. -/
theorem crashTo_one (d : Dsk) (bs : List Bool) (t a : Int) (l : List (Int × ByteArray)) (i : Int) (j : Nat) (q : Int × ByteArray) (hq : l[j]? = some q) : ∀ k, k ≤ l.length → j < k → (∀ j' p, j' < k → j' ≠ j → l[j']? = some p → p.1 ≠ i) →
    (d.crashTo bs t a l k).holds i = stepS i bs t a j q (d.holds i) := by
  intro k
  induction k with
  | zero => intro _ h; omega
  | succ k ih =>
    intro hk hj hn
    have hp : l[k]? = some l[k] := List.getElem?_eq_getElem (by omega)
    rw [holds_crashTo d bs t a l k i hp]
    by_cases hjk : j = k
    · subst hjk
      rw [hp] at hq
      obtain rfl := Option.some.inj hq
      rw [crashTo_none d bs t a l i j (by omega) (fun j' p hj' => hn j' p (by omega) (by omega))]
    · rw [ih (by omega) (by omega) (fun j' p hj' => hn j' p (by omega))]
      rw [show stepS i bs t a k l[k] (stepS i bs t a j q (d.holds i)) = stepS i bs t a j q (d.holds i) from if_neg (hn k _ (by omega) (fun e => hjk e.symm) hp)]

/-- The disk behind k writes, sector after sector. -/
def upA (ss : List ByteArray) : Nat → Dsk
  | 0 => newDsk 8
  | k + 1 => (upA ss k).writeS (k : Int) (full (ss[k]?.getD ⟨#[]⟩))
/-- The disk behind k writes, from the last of m sectors down. -/
def upB (ss : List ByteArray) (m : Nat) : Nat → Dsk
  | 0 => newDsk 8
  | k + 1 => (upB ss m k).writeS ((m - 1 - k : Nat) : Int) (full (ss[m - 1 - k]?.getD ⟨#[]⟩))
theorem write_facts (d : Dsk) (i : Int) (s : ByteArray) (hn : d.n = 8) (hl : d.lim = false) (hi : 0 ≤ i ∧ i < 8) (hs : s.size = 128) : d.writeE i s = 0 ∧ (d.writeS i s).n = 8 ∧ (d.writeS i s).lim = false ∧ (d.writeS i s).pend = d.pend ++ [(i, s)] ∧ (d.writeS i s).held = d.held := by
  have he : d.writeE i s = 0 := by
    unfold Dsk.writeE Dsk.dead
    rw [if_pos (by rw [hn]; exact hi), if_pos hs, hl]; rfl
  refine ⟨he, ?_⟩
  unfold Dsk.writeS
  rw [if_pos he]
  exact ⟨hn, hl, rfl, rfl⟩
structure Ups (d : Dsk) (k : Nat) (f : Nat → Int × ByteArray) : Prop where
  n : d.n = 8
  lim : d.lim = false
  pend : d.pend = (List.range k).map f
  held : d.held = fun _ => none
  good : d.Good
theorem upA_facts (ss : List ByteArray) (k : Nat) (hk : k ≤ 8) : Ups (upA ss k) k (fun j => ((j : Int), full (ss[j]?.getD ⟨#[]⟩))) := by
  induction k with
  | zero => exact ⟨rfl, rfl, rfl, rfl, Dsk.Good.new 8⟩
  | succ k ih =>
    obtain ⟨h1, h2, h3, h4, h5⟩ := ih (by omega)
    obtain ⟨_, g1, g2, g3, g4⟩ := write_facts (upA ss k) (k : Int) (full (ss[k]?.getD ⟨#[]⟩)) h1 h2 ⟨by omega, by omega⟩ (full_size _)
    exact ⟨g1, g2, by rw [show (upA ss (k + 1)).pend = _ from g3, h3, List.range_succ, List.map_append]; rfl, g4.trans h4, h5.writeS _ _⟩
theorem upB_facts (ss : List ByteArray) (m k : Nat) (hm : m ≤ 8) (hk : k ≤ m) : Ups (upB ss m k) k (fun j => (((m - 1 - j : Nat) : Int), full (ss[m - 1 - j]?.getD ⟨#[]⟩))) := by
  induction k with
  | zero => exact ⟨rfl, rfl, rfl, rfl, Dsk.Good.new 8⟩
  | succ k ih =>
    obtain ⟨h1, h2, h3, h4, h5⟩ := ih (by omega)
    obtain ⟨_, g1, g2, g3, g4⟩ := write_facts (upB ss m k) ((m - 1 - k : Nat) : Int) (full (ss[m - 1 - k]?.getD ⟨#[]⟩)) h1 h2 ⟨by omega, by omega⟩ (full_size _)
    exact ⟨g1, g2, by rw [show (upB ss m (k + 1)).pend = _ from g3, h3, List.range_succ, List.map_append]; rfl, g4.trans h4, h5.writeS _ _⟩
theorem upA_write (ss : List ByteArray) (k : Nat) (hk : k < 8) {s : ByteArray} (hs : ss[k]? = some s) : (upA ss k).writeE (k : Int) (full s) = 0 ∧ (upA ss k).writeS (k : Int) (full s) = upA ss (k + 1) := by
  obtain ⟨h1, h2, _⟩ := upA_facts ss k (by omega)
  exact ⟨(write_facts (upA ss k) (k : Int) (full s) h1 h2 ⟨by omega, by omega⟩ (full_size _)).1, by show _ = (upA ss k).writeS _ _; rw [hs]; rfl⟩
theorem upB_write (ss : List ByteArray) (m k : Nat) (hm : m ≤ 8) (hk : k < m) {s : ByteArray} (hs : ss[m - 1 - k]? = some s) : (upB ss m k).writeE ((m - 1 - k : Nat) : Int) (full s) = 0 ∧ (upB ss m k).writeS ((m - 1 - k : Nat) : Int) (full s) = upB ss m (k + 1) := by
  obtain ⟨h1, h2, _⟩ := upB_facts ss m k hm (by omega)
  exact ⟨(write_facts (upB ss m k) ((m - 1 - k : Nat) : Int) (full s) h1 h2 ⟨by omega, by omega⟩ (full_size _)).1, by show _ = (upB ss m k).writeS _ _; rw [hs]; rfl⟩
def turned (keep : List Bool) (m k : Nat) : List Bool := (List.range k).map fun i => keep[m - 1 - i]?.getD false
theorem turned_succ (keep : List Bool) (m k : Nat) : (turned keep m (k + 1)).map Value.bool = (turned keep m k).map Value.bool ++ [Value.bool (keep[m - 1 - k]?.getD false)] := by
  unfold turned; rw [List.range_succ, List.map_append, List.map_append]; rfl
theorem Ups.at_ {d : Dsk} {k : Nat} {f : Nat → Int × ByteArray} (h : Ups d k f) {j : Nat} {p : Int × ByteArray} (hj : j < k) (hp : d.pend[j]? = some p) : p = f j := by
  rw [h.pend, List.getElem?_map, List.getElem?_range hj] at hp
  exact (Option.some.inj hp).symm
theorem Ups.len {d : Dsk} {k : Nat} {f : Nat → Int × ByteArray} (h : Ups d k f) : d.pend.length = k := by rw [h.pend]; simp
theorem swap_read (ss : List ByteArray) (keep : List Bool) (m : Nat) (hm : m ≤ 8) (torn a i : Int) (hi : 0 ≤ i ∧ i < 8) :
    (((upA ss m).crash keep torn a).readE i = 0 ∧ ((upB ss m m).crash (turned keep m m) ((m : Int) - 1 - torn) a).readE i = 0) ∧
    ((upB ss m m).crash (turned keep m m) ((m : Int) - 1 - torn) a).readV i = ((upA ss m).crash keep torn a).readV i := by
  have hA := upA_facts ss m hm
  have hB := upB_facts ss m m hm (Nat.le_refl _)
  obtain ⟨a1, a2⟩ := crash_readV (d := upA ss m) keep torn a (i := i) (by rw [hA.n]; exact hi)
  obtain ⟨b1, b2⟩ := crash_readV (d := upB ss m m) (turned keep m m) ((m : Int) - 1 - torn) a (i := i) (by rw [hB.n]; exact hi)
  refine ⟨⟨a2, b2⟩, ?_⟩
  rw [a1, b1, hA.len, hB.len]
  have zA : (upA ss m).holds i = zeros := by unfold Dsk.holds; rw [hA.held]; rfl
  have zB : (upB ss m m).holds i = zeros := by unfold Dsk.holds; rw [hB.held]; rfl
  by_cases him : i < m
  · obtain ⟨q, rfl⟩ : ∃ q : Nat, i = q := ⟨i.toNat, by omega⟩
    have hq : q < m := by omega
    have lA : (upA ss m).pend[q]? = some ((q : Int), full (ss[q]?.getD ⟨#[]⟩)) := by rw [hA.pend, List.getElem?_map, List.getElem?_range hq]; rfl
    have lB : (upB ss m m).pend[m - 1 - q]? = some ((q : Int), full (ss[q]?.getD ⟨#[]⟩)) := by
      rw [hB.pend, List.getElem?_map, List.getElem?_range (show m - 1 - q < m by omega)]
      have : m - 1 - (m - 1 - q) = q := by omega
      simp only [Option.map_some, this]
    rw [crashTo_one _ keep torn a _ (q : Int) q _ lA m (by rw [hA.len]; exact Nat.le_refl _) hq (fun j p hj hne hp e => by
      rw [hA.at_ hj hp] at e; simp at e; omega)]
    rw [crashTo_one _ (turned keep m m) ((m : Int) - 1 - torn) a _ (q : Int) (m - 1 - q) _ lB m (by rw [hB.len]; exact Nat.le_refl _) (by omega) (fun j p hj hne hp e => by
      rw [hB.at_ hj hp] at e; simp only at e; omega)]
    rw [zA, zB]
    unfold stepS
    rw [if_pos rfl, if_pos rfl]
    have ht : (turned keep m m)[m - 1 - q]? = some (keep[q]?.getD false) := by
      unfold turned
      rw [List.getElem?_map, List.getElem?_range (show m - 1 - q < m by omega)]
      have : m - 1 - (m - 1 - q) = q := by omega
      simp only [Option.map_some, this]
    rw [ht]
    have e1 : (some (keep[q]?.getD false) = some true) ↔ keep[q]? = some true := by
      cases keep[q]? <;> simp
    have e2 : (((m - 1 - q : Nat) : Int) = (m : Int) - 1 - torn) ↔ (q : Int) = torn := by omega
    simp only [e1, e2]
  · rw [crashTo_none _ keep torn a _ i m (by rw [hA.len]; exact Nat.le_refl _) (fun j p hj hp e => by
      rw [hA.at_ hj hp] at e; simp only at e; omega)]
    rw [crashTo_none _ (turned keep m m) ((m : Int) - 1 - torn) a _ i m (by rw [hB.len]; exact Nat.le_refl _) (fun j p hj hp e => by
      rw [hB.at_ hj hp] at e; simp only at e; omega)]
    rw [zA, zB]
end Go.Proofs.Ytofoneapfokdjaa

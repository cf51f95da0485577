/- Stores into a row of the call's own; and the plain law of DiskKeeps. -/
import Derived.Test.YtofoneapfokdjaaOnePure
namespace Go.Proofs.Ytofoneapfokdjaa
open Go.RowKit

section
variable {B : Nat} {W w w' : World} {l l' : List (Nat × Dsk)} {r n c : Nat} {t : TypeId} {v : Value} {xs : List Value}
theorem Room.form (h : Room w l B t v n xs) (hn : 0 < n) : ∃ r c cur, v = .slice (some ⟨r, 0, none⟩) n c ∧ Blk w r t cur ∧ n ≤ cur.size ∧ cur.toList.take n = xs := by
  rcases h.row.2 with ⟨_, h0⟩ | ⟨g, cap, cur, hv, _, hh, hle, _, hs, hx⟩
  · omega
  · exact ⟨g, cap, cur, hv, hh, by omega, by simpa using hx⟩
theorem Room.at_ (h : Room w l B t (.slice (some ⟨r, 0, none⟩) n c) n xs) {q : Nat} (hq : q < n) : w.cell? ⟨r, q, none⟩ = xs[q]? ∧ w.frozen? ⟨r, q, none⟩ = false := by
  obtain ⟨r', c', cur, e, hb, hn, hx⟩ := h.form (by omega)
  simp only [Value.slice.injEq, Option.some.injEq, Addr.mk.injEq, and_true, true_and] at e
  obtain ⟨rfl, _⟩ := e
  refine ⟨?_, hb.frozen q⟩
  rw [hb.cell, ← hx, List.getElem?_take, if_pos hq]
  simp
theorem Room.set (h : Room w l B t (.slice (some ⟨r, 0, none⟩) n c) n xs) (hD : Disks B W w l) {q : Nat} (hq : q < n) (u : Value) : Disks B W (w.setCell ⟨r, q, none⟩ u) l ∧ Room (w.setCell ⟨r, q, none⟩ u) l B t (.slice (some ⟨r, 0, none⟩) n c) n (xs.set q u) := by
  have hF : Fr (fun k => k = r) w (w.setCell ⟨r, q, none⟩ u) := Fr.setCell (Fr.refl (fun k => k = r) w) (p := ⟨r, q, none⟩) (fun _ => rfl) u
  have hcl := h.clear r rfl
  have hS : ∀ k, feet w l k → ¬ k = r := fun k hf e => hcl (e ▸ hf)
  refine ⟨hD.kept hF hS (fun k _ e => e ▸ (h.row.lt r rfl).1), ?_, fun k hk hf => h.clear k hk (feet_keep hD hF hS hf)⟩
  refine ⟨by rw [List.length_set]; exact h.row.1, ?_⟩
  rcases h.row.2 with ⟨h1, _⟩ | ⟨g, cap, cur, hv, hg, hh, hle, hm, hs, hx⟩
  · cases h1
  · simp only [Value.slice.injEq, Option.some.injEq, Addr.mk.injEq, and_true, true_and] at hv
    obtain ⟨rfl, rfl⟩ := hv
    have hb : Blk w r t cur := hh
    refine .inr ⟨r, c, cur.setIfInBounds q u, rfl, hg, hb.set_ q u, hle, hm, by simpa using hs, ?_⟩
    rw [← hx, Nat.mul_one]
    apply List.ext_getElem?
    intro j
    simp only [List.getElem?_take, List.getElem?_set, Array.getElem?_toList, Array.getElem?_setIfInBounds, List.length_take, Array.length_toList]
    by_cases hj : j < n
    · rw [if_pos hj, if_pos hj]
      by_cases e : q = j
      · rw [if_pos e, if_pos e, if_pos (by omega), if_pos (by omega)]
      · rw [if_neg e, if_neg e]
    · rw [if_neg hj, if_neg hj]
      rw [if_neg (by omega)]
end

theorem mix_add (s r : ByteArray) (k : Nat) (hr : r.size = 128) : s.extract 0 k ++ r.extract k 128 = mix s r k := by
  apply ByteArray.ext
  apply Array.toList_inj.1
  have h : r.data.toList.length = 128 := by simpa using hr
  have e1 : (s.extract 0 k ++ r.extract k 128).data.toList = (s.extract 0 k).data.toList ++ (r.extract k 128).data.toList := by simp
  have e2 : (r.extract k 128).data.toList = r.data.toList.drop k := by
    simp only [ByteArray.data_extract, Array.toList_extract, List.extract_eq_take_drop]
    rw [List.take_of_length_le (by rw [List.length_drop]; omega)]
  rw [e1, e2, extract_toList]
  simp [mix]

def afterB : ByteArray := full ⟨#[97, 102, 116, 101, 114]⟩
def keepF (xs : List Int) (j : Nat) : Int × ByteArray := ((xs[j]?.getD 0) % 8, afterB)
def keepD (ss : List ByteArray) (xs : List Int) : Nat → Dsk
  | 0 => (upA ss 8).flushS
  | k + 1 => (keepD ss xs k).writeS (keepF xs k).1 (keepF xs k).2
/-- What is wanted of the eight sectors. -/
def keepW (ss : List ByteArray) (xs : List Int) (n0 n1 : Int) : Nat → List ByteArray
  | 0 => (List.range 8).map fun i => full (ss[i]?.getD ⟨#[]⟩)
  | k + 1 => if (k : Int) = n0 then (keepW ss xs n0 n1 k).set (keepF xs k).1.toNat (mix afterB ((keepW ss xs n0 n1 k)[(keepF xs k).1.toNat]?.getD zeros) (cutAt n1)) else keepW ss xs n0 n1 k
theorem keepF_in (xs : List Int) (k : Nat) : 0 ≤ (keepF xs k).1 ∧ (keepF xs k).1 < 8 := by unfold keepF; simp only; omega
theorem keepW_len (ss : List ByteArray) (xs : List Int) (n0 n1 : Int) (k : Nat) : (keepW ss xs n0 n1 k).length = 8 := by
  induction k with
  | zero => rfl
  | succ k ih =>
    show (if (k : Int) = n0 then _ else _ : List ByteArray).length = 8
    split
    · rw [List.length_set]; exact ih
    · exact ih
theorem keepW_size (ss : List ByteArray) (xs : List Int) (n0 n1 : Int) (k : Nat) : ∀ s ∈ keepW ss xs n0 n1 k, s.size = 128 := by
  induction k with
  | zero =>
    intro s hs
    obtain ⟨i, _, rfl⟩ := List.mem_map.1 hs
    exact full_size _
  | succ k ih =>
    intro s hs
    have hs : s ∈ (if (k : Int) = n0 then (keepW ss xs n0 n1 k).set (keepF xs k).1.toNat (mix afterB ((keepW ss xs n0 n1 k)[(keepF xs k).1.toNat]?.getD zeros) (cutAt n1)) else keepW ss xs n0 n1 k) := hs
    split at hs
    · rcases List.mem_or_eq_of_mem_set hs with h | h
      · exact ih s h
      · rw [h]
        refine mix_size _ _ _ (full_size _) ?_ (cutAt_le _)
        cases hx : (keepW ss xs n0 n1 k)[(keepF xs k).1.toNat]? with
        | none => exact zeros_size
        | some y => exact ih y (List.mem_of_getElem? hx)
    · exact ih s hs
theorem keepF_size (xs : List Int) (k : Nat) : (keepF xs k).2.size = 128 := full_size ⟨#[97, 102, 116, 101, 114]⟩
structure Kept8 (d : Dsk) (k : Nat) (f : Nat → Int × ByteArray) : Prop where
  n : d.n = 8
  lim : d.lim = false
  pend : d.pend = (List.range k).map f
  good : d.Good
theorem up_flush (ss : List ByteArray) : (upA ss 8).flushE = 0 ∧ (upA ss 8).flushS.n = 8 ∧ (upA ss 8).flushS.lim = false ∧ (upA ss 8).flushS.pend = [] ∧ (upA ss 8).flushS.Good ∧ ∀ q : Nat, q < 8 → (upA ss 8).flushS.holds q = full (ss[q]?.getD ⟨#[]⟩) := by
  have hU := upA_facts ss 8 (Nat.le_refl _)
  have hd : (upA ss 8).dead = false := by unfold Dsk.dead; rw [hU.lim]; rfl
  have hS : (upA ss 8).flushS = (upA ss 8).flush := by unfold Dsk.flushS; rw [hd]; rfl
  refine ⟨by unfold Dsk.flushE; rw [hd]; rfl, ?_, ?_, by rw [hS]; rfl, hU.good.flushS, fun q hq => ?_⟩
  · rw [hS]; exact (Dsk.doAll_pend _ _).2.1.trans hU.n
  · rw [hS]; exact (Dsk.doAll_pend _ _).2.2.1.trans hU.lim
  · rw [hS]
    show ((upA ss 8).use.doAll (upA ss 8).pend).holds q = _
    rw [hU.pend]
    have key : ∀ k, k ≤ 8 → ∀ d : Dsk, q < k → (d.doAll ((List.range k).map fun j : Nat => ((j : Int), full (ss[j]?.getD ⟨#[]⟩)))).holds q = full (ss[q]?.getD ⟨#[]⟩) := by
      intro k
      induction k with
      | zero => intro _ _ h; omega
      | succ k ih =>
        intro hk d hqk
        rw [List.range_succ, List.map_append]
        show (Dsk.doAll d (_ ++ [_])).holds q = _
        unfold Dsk.doAll
        rw [List.foldl_append]
        show (Dsk.do_ (Dsk.doAll d _) _).holds q = _
        rw [holds_do]
        by_cases h : (k : Int) = q
        · rw [if_pos h]
          obtain rfl : k = q := by omega
          rfl
        · rw [if_neg h]
          exact ih (by omega) d (by omega)
    have := key 8 (Nat.le_refl _) (upA ss 8).use hq
    exact this
theorem keepD_facts (ss : List ByteArray) (xs : List Int) (k : Nat) : Kept8 (keepD ss xs k) k (keepF xs) ∧ (keepD ss xs k).held = (upA ss 8).flushS.held := by
  obtain ⟨_, f1, f2, f3, f4, _⟩ := up_flush ss
  induction k with
  | zero => exact ⟨⟨f1, f2, f3, f4⟩, rfl⟩
  | succ k ih =>
    obtain ⟨⟨h1, h2, h3, h5⟩, h4⟩ := ih
    obtain ⟨_, g1, g2, g3, g4⟩ := write_facts4 (keepD ss xs k) 8 (keepF xs k).1 (keepF xs k).2 h1 h2 (keepF_in xs k) (keepF_size xs k)
    exact ⟨⟨g1, g2, by rw [show (keepD ss xs (k + 1)).pend = _ from g3, h3, List.range_succ, List.map_append]; rfl, h5.writeS _ _⟩, g4.trans h4⟩
theorem keepD_write (ss : List ByteArray) (xs : List Int) (k : Nat) : (keepD ss xs k).writeE (keepF xs k).1 (keepF xs k).2 = 0 := by
  obtain ⟨⟨h1, h2, h3, h5⟩, h4⟩ := keepD_facts ss xs k
  exact (write_facts4 (keepD ss xs k) 8 (keepF xs k).1 (keepF xs k).2 h1 h2 (keepF_in xs k) (keepF_size xs k)).1
theorem keep_read (ss : List ByteArray) (xs : List Int) (n0 n1 : Int) (k q : Nat) (hq : q < 8) : ((keepD ss xs k).crash [] n0 n1).readE q = 0 ∧ (keepW ss xs n0 n1 k)[q]? = some (((keepD ss xs k).crash [] n0 n1).readV q) := by
  obtain ⟨hO, hh⟩ := keepD_facts ss xs k
  obtain ⟨a1, a2⟩ := crash_readV (d := keepD ss xs k) [] n0 n1 (i := (q : Int)) (by rw [hO.n]; omega)
  refine ⟨a2, ?_⟩
  rw [a1]
  have hlen : (keepD ss xs k).pend.length = k := by rw [hO.pend]; simp
  have key : ∀ j, j ≤ k → (keepW ss xs n0 n1 j)[q]? = some (((keepD ss xs k).crashTo [] n0 n1 (keepD ss xs k).pend j).holds q) := by
    intro j
    induction j with
    | zero =>
      intro _
      show ((List.range 8).map fun i => full (ss[i]?.getD ⟨#[]⟩))[q]? = some ((keepD ss xs k).holds q)
      rw [List.getElem?_map, List.getElem?_range hq]
      have : (keepD ss xs k).holds q = (upA ss 8).flushS.holds q := by unfold Dsk.holds; rw [hh]
      rw [this, (up_flush ss).2.2.2.2.2 q hq]
      rfl
    | succ j ih =>
      intro hj
      have hp : (keepD ss xs k).pend[j]? = some (keepF xs j) := by rw [hO.pend, List.getElem?_map, List.getElem?_range (by omega)]; rfl
      rw [holds_crashTo _ _ _ _ _ _ (q : Int) hp]
      have ih := ih (by omega)
      generalize ((keepD ss xs k).crashTo [] n0 n1 (keepD ss xs k).pend j).holds q = cur at *
      unfold stepS
      show (if (j : Int) = n0 then (keepW ss xs n0 n1 j).set (keepF xs j).1.toNat (mix afterB ((keepW ss xs n0 n1 j)[(keepF xs j).1.toNat]?.getD zeros) (cutAt n1)) else keepW ss xs n0 n1 j)[q]? = _
      have hin := keepF_in xs j
      have hl := keepW_len ss xs n0 n1 j
      by_cases hn : (j : Int) = n0
      · rw [if_pos hn]
        by_cases h : (keepF xs j).1 = (q : Int)
        · rw [if_pos h, if_neg (by simp), if_pos hn]
          have e : (keepF xs j).1.toNat = q := by omega
          rw [e, List.getElem?_set, if_pos rfl, if_pos (by omega), ih]
          rfl
        · rw [if_neg h, List.getElem?_set, if_neg (by omega)]
          exact ih
      · rw [if_neg hn]
        by_cases h : (keepF xs j).1 = (q : Int)
        · rw [if_pos h, if_neg (by simp), if_neg hn]; exact ih
        · rw [if_neg h]; exact ih
  rw [hlen]
  exact key k (Nat.le_refl _)
end Go.Proofs.Ytofoneapfokdjaa

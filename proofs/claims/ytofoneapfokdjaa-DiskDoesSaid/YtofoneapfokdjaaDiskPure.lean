/- What a sector holds behind a flush or a crash: plain laws of the model's disk. -/
import Derived.Test.YtofoneapfokdjaaFixed05
namespace Go.Proofs.Ytofoneapfokdjaa
set_option linter.unusedSimpArgs false
set_option linter.unusedVariables false

/-- What a sector has behind the write at place j of a crash. -/
def stepS (i : Int) (bs : List Bool) (t a : Int) (j : Nat) (p : Int × ByteArray) (cur : ByteArray) : ByteArray :=
  if p.1 = i then (if bs[j]? = some true then p.2 else if (j : Int) = t then mix p.2 cur (cutAt a) else cur) else cur
theorem holds_do (d : Dsk) (p : Int × ByteArray) (i : Int) : (d.do_ p).holds i = if p.1 = i then p.2 else d.holds i := by
  show (if i = p.1 then some p.2 else d.held i).getD zeros = _
  by_cases h : p.1 = i
  · rw [if_pos h, if_pos h.symm]; rfl
  · rw [if_neg h, if_neg (fun e => h e.symm)]; rfl
theorem holds_crash1 (d : Dsk) (bs : List Bool) (t a : Int) (j : Nat) (p : Int × ByteArray) (i : Int) : (d.crash1 bs t a j p).holds i = stepS i bs t a j p (d.holds i) := by
  unfold Dsk.crash1 stepS
  by_cases hb : bs[j]? = some true
  · rw [if_pos hb, holds_do]
    by_cases h : p.1 = i
    · rw [if_pos h, if_pos h, if_pos hb]
    · rw [if_neg h, if_neg h]
  · rw [if_neg hb]
    by_cases ht : (j : Int) = t
    · rw [if_pos ht]
      unfold Dsk.tear
      rw [holds_do]
      by_cases h : p.1 = i
      · rw [if_pos h, if_pos h, if_neg hb, if_pos ht, h]
      · rw [if_neg h, if_neg h]
    · rw [if_neg ht]
      by_cases h : p.1 = i
      · rw [if_pos h, if_neg hb, if_neg ht]
      · rw [if_neg h]
theorem holds_crashTo (d : Dsk) (bs : List Bool) (t a : Int) (l : List (Int × ByteArray)) (k : Nat) (i : Int) {p : Int × ByteArray} (hp : l[k]? = some p) :
    (d.crashTo bs t a l (k + 1)).holds i = stepS i bs t a k p ((d.crashTo bs t a l k).holds i) := by
  rw [← holds_crash1]
  show (match l[k]? with | some p => (d.crashTo bs t a l k).crash1 bs t a k p | none => d.crashTo bs t a l k).holds i = _
  rw [hp]
theorem holds_crash (d : Dsk) (bs : List Bool) (t a : Int) (i : Int) : (d.crash bs t a).holds i = (d.crashTo bs t a d.pend d.pend.length).holds i := rfl
theorem read_nil {d : Dsk} (h : d.pend = []) (i : Int) : d.read i = d.holds i := by unfold Dsk.read; rw [h]; rfl
theorem readV_in {d : Dsk} {i : Int} (h : 0 ≤ i ∧ i < d.n) : d.readV i = d.read i ∧ d.readE i = 0 := ⟨if_pos h, if_pos h⟩
theorem crash_n (d : Dsk) (bs : List Bool) (t a : Int) : (d.crash bs t a).n = d.n := (Dsk.crashTo_kept d bs t a d.pend d.pend.length).2
theorem crash_readV {d : Dsk} (bs : List Bool) (t a : Int) {i : Int} (h : 0 ≤ i ∧ i < d.n) : (d.crash bs t a).readV i = (d.crashTo bs t a d.pend d.pend.length).holds i ∧ (d.crash bs t a).readE i = 0 := by
  have h' : 0 ≤ i ∧ i < (d.crash bs t a).n := by rw [crash_n]; exact h
  refine ⟨(readV_in h').1.trans ?_, (readV_in h').2⟩
  rw [read_nil (show (d.crash bs t a).pend = [] from rfl), holds_crash]
theorem holds_doAll (l : List (Int × ByteArray)) (i : Int) : ∀ {d d' : Dsk}, d.holds i = d'.holds i → (d.doAll l).holds i = (d'.doAll l).holds i := by
  induction l with
  | nil => intro d d' h; exact h
  | cons p l ih =>
    intro d d' h
    refine ih ?_
    rw [holds_do, holds_do, h]
theorem flush_readV {d : Dsk} (hl : d.dead = false) {i : Int} (h : 0 ≤ i ∧ i < d.n) : d.flushS.readV i = (d.doAll d.pend).holds i ∧ d.flushS.readE i = 0 ∧ d.flushE = 0 ∧ d.flushS.n = d.n ∧ d.flushS.pend = [] := by
  unfold Dsk.flushS Dsk.flushE
  rw [hl, if_neg (by simp), if_neg (by simp)]
  have hn : d.flush.n = d.n := (Dsk.doAll_pend d.pend d.use).2.1
  have h' : 0 ≤ i ∧ i < d.flush.n := by rw [hn]; exact h
  refine ⟨(readV_in h').1.trans ?_, (readV_in h').2, rfl, hn, rfl⟩
  rw [read_nil (show d.flush.pend = [] from rfl)]
  show (d.use.doAll d.pend).holds i = _
  exact holds_doAll _ _ rfl
theorem mix_all (s r : ByteArray) (a : Int) (hs : s.size = 128) (hr : r.size = 128) (ha : 128 ≤ a) : mix s r (cutAt a) = s := by
  have hc : cutAt a = 128 := by unfold cutAt; omega
  have h1 : s.data.toList.length = 128 := by simpa using hs
  have h2 : r.data.toList.length = 128 := by simpa using hr
  unfold mix
  rw [hc, List.take_of_length_le (by omega), List.drop_of_length_le (by omega), List.append_nil]
theorem mix_none (s r : ByteArray) (a : Int) (ha : a ≤ 0) : mix s r (cutAt a) = r := by
  have hc : cutAt a = 0 := by unfold cutAt; omega
  unfold mix
  rw [hc]; simp
/-- A crash in which each write is done, kept or torn at its end, is a flush. -/
theorem crash_flush (d : Dsk) (hg : d.Good) (bs : List Bool) (t a : Int) (ha : 128 ≤ a ∨ ∀ j, j < d.pend.length → bs[j]? = some true) (hk : ∀ j, j < d.pend.length → bs[j]? = some true ∨ (j : Int) = t) (i : Int) :
    ∀ k, k ≤ d.pend.length → (d.crashTo bs t a d.pend k).holds i = (d.doAll (d.pend.take k)).holds i := by
  intro k
  induction k with
  | zero => intro _; rfl
  | succ k ih =>
    intro hkl
    have hp : d.pend[k]? = some d.pend[k] := List.getElem?_eq_getElem (by omega)
    rw [holds_crashTo d bs t a d.pend k i hp, ih (by omega), Dsk.doAll_succ d d.pend k hp, holds_do]
    unfold stepS
    by_cases h : d.pend[k].1 = i
    · rw [if_pos h, if_pos h]
      by_cases hb : bs[k]? = some true
      · rw [if_pos hb]
      · rw [if_neg hb]
        rcases hk k (by omega) with h1 | h1
        · exact absurd h1 hb
        · rw [if_pos h1]
          rcases ha with ha | ha
          · exact mix_all _ _ _ (hg.1 _ (List.getElem_mem _)) ((Dsk.Good.doAll (d.pend.take k) hg (fun p hp => hg.1 p (List.mem_of_mem_take hp))).holds i) ha
          · exact absurd (ha k (by omega)) hb
    · rw [if_neg h, if_neg h]
end Go.Proofs.Ytofoneapfokdjaa

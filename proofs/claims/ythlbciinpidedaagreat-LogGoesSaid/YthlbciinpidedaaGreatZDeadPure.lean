/- A log on a disk that may stop; plain. -/
import Derived.Test.YthlbciinpidedaaGreatZRunPure
namespace Go.Proofs.YthlbciinpidedaaGreat
set_option linter.unusedSimpArgs false
set_option linter.unusedVariables false
set_option maxRecDepth 100000
open Go.RowKit

theorem lim_write (d : Dsk) (h : d.lim = true) (i : Int) (s : ByteArray) (hi : 0 ≤ i ∧ i < d.n) (hs : s.size = 128) (hb : 0 ≤ d.left ∧ d.left ≤ 1000) :
    (d.left < 1 → d.writeE i s = 9) ∧ (1 ≤ d.left → d.writeE i s = 0 ∧ (d.writeS i s).lim = true ∧ (d.writeS i s).left = d.left - 1) := by
  constructor
  · intro h1
    have hd : d.dead = true := by unfold Dsk.dead; rw [h, decide_eq_true h1]; rfl
    unfold Dsk.writeE
    rw [if_pos hi, if_pos hs, hd]; rfl
  · intro h1
    have hd : d.dead = false := by unfold Dsk.dead; rw [decide_eq_false (by omega)]; exact Bool.and_false _
    have e : d.writeE i s = 0 := by
      unfold Dsk.writeE
      rw [if_pos hi, if_pos hs, hd]; rfl
    refine ⟨e, ?_, ?_⟩
    · unfold Dsk.writeS
      rw [if_pos e]
      exact h
    · unfold Dsk.writeS
      rw [if_pos e]
      show wrap64 (d.left - 1) = _
      exact IntWalk.wrap64_in _ (by omega)
structure DRun (c : Cnf) (q r m : Nat) (n : Int) (s : LSt) : Prop where
  run : Run c q r m s
  lim : s.d.lim = true
  left : s.d.left = n
section
variable {c : Cnf} {q r m : Nat} {n : Int} {s : LSt} {rc : Rec}
theorem DRun.put (h : DRun c q r m n s) (hm : m ≤ 10000) (hn : 0 ≤ n ∧ n ≤ 1000) (hp : Puts rc) (hr : (r : Int) < c.slots) :
    (n < 1 → s.put 1 rc = (9, 0, 0, s)) ∧ (1 ≤ n → ∃ s', s.put 1 rc = (0, (q : Int), (r : Int), s') ∧ DRun c q (r + 1) (m + 1) (n - 1) s') := by
  have hR := (hp.recOf (h.run.ok hm)).1
  obtain ⟨w1, w2⟩ := lim_write s.d h.lim s.T.at_ (s.recOf 1 rc).sector h.run.at_in (Rec.sector_size hR) (by rw [h.left]; exact hn)
  rw [h.left] at w1 w2
  constructor
  · intro h1
    unfold LSt.put
    rw [w1 h1, if_neg (by decide)]
  · intro h1
    obtain ⟨e, l1, l2⟩ := w2 h1
    refine ⟨_, ?_, h.run.count hr e, l1, l2⟩
    unfold LSt.put
    rw [e, if_pos rfl, h.run.open_, h.run.last]
theorem DRun.roll (h : DRun c q r m n s) (hm : m ≤ 1000) (hn : 0 ≤ n ∧ n ≤ 1000) (hp : Puts rc) (hr : (r : Int) = c.slots) (hq : ((q + 1 : Nat) : Int) < c.segs) :
    (n < 2 → (s.append 1 rc).1 = 9) ∧ (2 ≤ n → ∃ s', s.append 1 rc = (0, ((q + 1 : Nat) : Int), ((0 : Nat) : Int), s') ∧ DRun c (q + 1) 1 (m + 2) (n - 2) s') := by
  have hok := h.run.ok (by omega)
  have hlsn := hok.lsn
  have hsl := h.run.t.slots
  have hsg := h.run.t.segs
  have hsegs := h.run.segs
  have hslots := h.run.slots
  rw [h.run.append_roll (by omega) hp hr hq, h.run.seal_is hq 1]
  obtain ⟨w1, w2⟩ := lim_write s.d h.lim s.T.at_ (footR s.lsn 1 ((q + 1 : Nat) : Int)).sector h.run.at_in (Rec.sector_size (footR_right _ _ _ (by omega) (by omega))) (by rw [h.left]; exact hn)
  rw [h.left] at w1 w2
  by_cases h1 : n < 1
  · have e : rollE s.d s.T s.lsn 1 ((q + 1 : Nat) : Int) = 9 := w1 h1
    have h9 : ¬ ((9 : Int) = 0) := by decide
    simp only [e, if_neg h9]
    exact ⟨fun _ => trivial, fun h2 => absurd h2 (by omega)⟩
  · obtain ⟨e, l1, l2⟩ := w2 (by omega)
    have e' : rollE s.d s.T s.lsn 1 ((q + 1 : Nat) : Int) = 0 := e
    rw [e', if_pos rfl, if_pos rfl]
    have hR2 := h.run.rolled hq e (by omega)
    have hD : DRun c (q + 1) 0 (m + 1) (n - 1) ⟨s.T.roll ((q + 1 : Nat) : Int) (s.lsn + 1), s.lsn + 1, s.gen, s.d.writeS s.T.at_ (footR s.lsn 1 ((q + 1 : Nat) : Int)).sector⟩ := ⟨hR2, l1, l2⟩
    obtain ⟨p1, p2⟩ := hD.put (rc := rc) (by omega) (by omega) hp (by show ((0 : Nat) : Int) < _; omega)
    constructor
    · intro h2
      rw [p1 (by omega)]
    · intro h2
      obtain ⟨s', hs, hd⟩ := p2 (by omega)
      refine ⟨s', hs, ?_⟩
      have : n - 1 - 1 = n - 2 := by omega
      rw [this] at hd
      exact hd
end
/-- The start. -/
theorem Cnf.sectors_eq {c : Cnf} (h : c.may = true) : c.sectors = 2 + c.segs * (c.slots + 1) := by unfold Cnf.sectors; rw [if_pos h]
def startS (c : Cnf) : LSt := ⟨newTab c.segs c.slots 1, 1, 1, madeD c.sectors c⟩
theorem run_start {c : Cnf} (h : c.may = true) : Run c 0 0 0 (startS c) := by
  obtain ⟨h1, h2⟩ := Cnf.may_in h
  have hs := sec_bound c.segs c.slots h1 h2
  obtain ⟨d1, d2, d3⟩ := madeD_is c.sectors (by rw [Cnf.sectors_eq h]; omega) c
  refine ⟨rfl, rfl, rfl, rfl, newTab_ok _ _ _ h1 h2 (by omega), rfl, rfl, by show (madeD c.sectors c).pend.length = 0; rw [d3]; rfl, by show (madeD c.sectors c).n = _; rw [d2, Cnf.sectors_eq h]⟩
theorem drun_start {c : Cnf} (h : c.may = true) (n : Int) : DRun c 0 0 0 n { startS c with d := (madeD c.sectors c).limit n } := by
  have hr := run_start h
  exact ⟨⟨hr.segs, hr.slots, hr.order, hr.last, hr.t, hr.lsn, hr.gen, hr.pend, hr.n⟩, rfl, rfl⟩
def tombR : Rec := { lsn := 0, epoch := 0, kind := 2, ver := 0, dl := 0, id := ⟨#[97]⟩, val := ⟨#[]⟩ }
theorem right_lsn (rc : Rec) (l l' : Int) (h : ({ rc with lsn := l, epoch := 1 } : Rec).right = true) (h1 : l ≠ 0) (h2 : l' ≠ 0) : ({ rc with lsn := l', epoch := 1 } : Rec).right = true := by
  have e1 : (l == 0) = false := beq_eq_false_iff_ne.2 h1
  have e2 : (l' == 0) = false := beq_eq_false_iff_ne.2 h2
  unfold Rec.right at *
  dsimp only at *
  rw [e1] at h
  rw [e2]
  exact h
theorem puts_of {rc : Rec} (hk : rc.kind ≠ 3) (h : ({ rc with lsn := 1, epoch := 1 } : Rec).right = true) (hf : rc.Fits) : Puts rc :=
  ⟨hk, fun l hl => right_lsn rc 1 l h (by decide) (by omega), hf⟩
theorem puts_tomb : Puts tombR := puts_of (by decide) (by
  have h1 : okID [97] = true := by decide
  unfold Rec.right tombR
  simp [h1]) (by constructor <;> decide)
/-- Numbers of the loop. -/
theorem mod_of {k q r : Nat} {σ : Int} (h1 : 1 ≤ σ ∧ σ ≤ 5) (hk : (k : Int) = q * σ + r) : ((r : Int) < σ → (k : Int).tmod σ = r) ∧ ((r : Int) = σ → (k : Int).tmod σ = 0) := by
  rw [Int.tmod_eq_emod_of_nonneg (by omega)]
  have hc : σ = 1 ∨ σ = 2 ∨ σ = 3 ∨ σ = 4 ∨ σ = 5 := by omega
  rcases hc with rfl | rfl | rfl | rfl | rfl <;> constructor <;> intro h <;> omega
theorem pos_of {k q r : Nat} {σ : Int} (h1 : 1 ≤ σ ∧ σ ≤ 5) (hk : (k : Int) = q * σ + r) (hr : 1 ≤ r) : 0 < k := by
  have h2 : 0 ≤ (q : Int) * σ := Int.mul_nonneg (by omega) (by omega)
  omega
theorem end_of {k q r : Nat} {σ g : Int} (h1 : 1 ≤ σ ∧ σ ≤ 5) (hk : (k : Int) = q * σ + r) (hr : (r : Int) ≤ σ) (hq : (q : Int) < g) (he : g * σ ≤ k) : ((q + 1 : Nat) : Int) = g ∧ (r : Int) = σ ∧ (k : Int) = g * σ := by
  have hc : σ = 1 ∨ σ = 2 ∨ σ = 3 ∨ σ = 4 ∨ σ = 5 := by omega
  rcases hc with rfl | rfl | rfl | rfl | rfl <;> omega
theorem more_of {k q : Nat} {σ g : Int} (h1 : 1 ≤ σ ∧ σ ≤ 5) (hk : (k : Int) = q * σ + σ) (hlt : (k : Int) < g * σ) : ((q + 1 : Nat) : Int) < g := by
  have hc : σ = 1 ∨ σ = 2 ∨ σ = 3 ∨ σ = 4 ∨ σ = 5 := by omega
  rcases hc with rfl | rfl | rfl | rfl | rfl <;> omega
end Go.Proofs.YthlbciinpidedaaGreat

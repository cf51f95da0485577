/- A log that is appended to, from its making on; plain. -/
import Derived.Test.YthlbciinpidedaaGreatZK22
namespace Go.Proofs.YthlbciinpidedaaGreat
set_option linter.unusedSimpArgs false
set_option linter.unusedVariables false
set_option maxRecDepth 100000

def upTo (q : Nat) : List Int := (List.range (q + 1)).map fun i : Nat => (i : Int)
theorem upTo_len (q : Nat) : (upTo q).length = q + 1 := by simp [upTo]
theorem upTo_at (q i : Nat) (h : i ≤ q) : (upTo q)[i]? = some (i : Int) := by
  unfold upTo
  rw [List.getElem?_map, List.getElem?_range (by omega)]
  rfl
theorem upTo_mem (q : Nat) (x : Int) : x ∈ upTo q ↔ 0 ≤ x ∧ x ≤ q := by
  unfold upTo
  rw [List.mem_map]
  constructor
  · rintro ⟨i, hi, rfl⟩
    have := List.mem_range.1 hi
    omega
  · rintro ⟨h1, h2⟩
    exact ⟨x.toNat, List.mem_range.2 (by omega), by omega⟩
theorem upTo_succ (q : Nat) : upTo q ++ [((q + 1 : Nat) : Int)] = upTo (q + 1) := by
  unfold upTo
  rw [List.range_succ (n := q + 1), List.map_append]
  rfl
/-- A log of so many writes, its segments opened in order, with r records in the last one. -/
structure Run (c : Cnf) (q r m : Nat) (s : LSt) : Prop where
  segs : s.T.segs = c.segs
  slots : s.T.slots = c.slots
  order : s.T.order = upTo q
  last : s.T.last = r
  t : s.T.Ok
  lsn : s.lsn = 1 + m
  gen : s.gen = 1
  pend : s.d.pend.length = m
  n : s.d.n = 2 + c.segs * (c.slots + 1)
section
variable {c : Cnf} {q r m : Nat} {s : LSt}
theorem Run.open_ (h : Run c q r m s) : s.T.open_ = q := by
  unfold Tab.open_
  rw [h.order, upTo_len, upTo_at q (q + 1 - 1) (by omega)]
  show ((q + 1 - 1 : Nat) : Int) = q
  omega
theorem Run.q_lt (h : Run c q r m s) : (q : Int) < c.segs := by
  have := h.t.inn (q : Int) (by rw [h.order]; exact (upTo_mem q _).2 (by omega))
  rw [h.segs] at this
  omega
theorem Run.r_le (h : Run c q r m s) : (r : Int) ≤ c.slots := by
  have := h.t.last.2.2
  rw [h.last, h.slots] at this
  exact this
theorem Run.at_ (h : Run c q r m s) : s.T.at_ = 2 + q * (c.slots + 1) + r := by
  unfold Tab.at_
  rw [s.T.len_open h.t, h.last, h.open_, h.slots]
  rfl
theorem mul_room (a b x y : Int) (h1 : x < a) (h2 : 0 ≤ b) (h3 : y ≤ b) (h4 : 0 ≤ x) (h5 : 0 ≤ y) : 0 ≤ 2 + x * (b + 1) + y ∧ 2 + x * (b + 1) + y < 2 + a * (b + 1) := by
  have e1 : 0 ≤ x * (b + 1) := Int.mul_nonneg h4 (by omega)
  have e2 : (x + 1) * (b + 1) ≤ a * (b + 1) := Int.mul_le_mul_of_nonneg_right (by omega) (by omega)
  have e3 : (x + 1) * (b + 1) = x * (b + 1) + (b + 1) := by rw [Int.add_mul, Int.one_mul]
  omega
theorem Run.at_in (h : Run c q r m s) : 0 ≤ s.T.at_ ∧ s.T.at_ < s.d.n := by
  rw [h.at_, h.n]
  have hs := h.t.slots
  rw [h.slots] at hs
  exact mul_room c.segs c.slots q r h.q_lt (by omega) h.r_le (by omega) (by omega)
theorem Run.free_no (h : Run c q r m s) : ∀ k, k ≤ q + 1 → s.T.freeTo k = []
  | 0, _ => rfl
  | k + 1, hk => by
    have hm : ¬ idx s.T.order (k : Int) < 0 := by
      have := idx_mem (l := s.T.order) (x := (k : Int)) (by rw [h.order]; exact (upTo_mem q _).2 (by omega))
      omega
    rw [freeTo_no _ _ hm, h.free_no k (by omega)]
theorem Run.free (h : Run c q r m s) (hq : ((q + 1 : Nat) : Int) < c.segs) : ∃ l, s.T.freeTo s.T.segs.toNat = ((q + 1 : Nat) : Int) :: l := by
  have hn : idx s.T.order ((q + 1 : Nat) : Int) < 0 := by
    rcases Int.lt_or_le (idx s.T.order ((q + 1 : Nat) : Int)) 0 with h1 | h1
    · exact h1
    · have := idx_in h1
      rw [h.order] at this
      have := (upTo_mem q _).1 this
      omega
  have e : s.T.freeTo (q + 2) = [((q + 1 : Nat) : Int)] := by rw [freeTo_yes _ _ hn, h.free_no (q + 1) (Nat.le_refl _)]; rfl
  obtain ⟨l, hl⟩ := freeTo_pre s.T s.T.segs.toNat (q + 2) (by rw [h.segs]; omega)
  exact ⟨l, by rw [hl, e]; rfl⟩
theorem Run.free_end (h : Run c q r m s) (hq : ((q + 1 : Nat) : Int) = c.segs) : s.T.freeTo s.T.segs.toNat = [] := h.free_no _ (by rw [h.segs]; omega)
theorem Run.ok (h : Run c q r m s) (hm : m ≤ 10000) : s.Ok :=
  ⟨h.t, by rw [h.lsn]; omega, by rw [h.gen]; omega, by rw [h.pend]; omega⟩
theorem Run.sealOk (h : Run c q r m s) (hm : m ≤ 10000) (epoch : Int) : (s.seal epoch).2.Ok := seal_ok (h.ok hm) epoch (by rw [h.lsn]; omega) (by rw [h.pend]; omega)
theorem Run.room (h : Run c q r m s) : s.T.room = 0 ↔ (r : Int) = c.slots ∧ ((q + 1 : Nat) : Int) = c.segs := by
  rw [s.T.room_none h.t, h.last, h.slots]
  have hq := h.q_lt
  constructor
  · rintro ⟨h1, h2⟩
    refine ⟨h1, ?_⟩
    rcases Int.lt_or_le ((q + 1 : Nat) : Int) c.segs with h3 | h3
    · obtain ⟨l, hl⟩ := h.free h3
      rw [hl] at h2; cases h2
    · omega
  · rintro ⟨h1, h2⟩
    exact ⟨h1, h.free_end h2⟩
theorem writeS_pend {d : Dsk} {i : Int} {x : ByteArray} (h : d.writeE i x = 0) : (d.writeS i x).pend.length = d.pend.length + 1 ∧ (d.writeS i x).n = d.n := by
  unfold Dsk.writeS
  rw [if_pos h]
  exact ⟨pend_write d i x, rfl⟩
/-- The state behind a record put. -/
theorem Run.count (h : Run c q r m s) (hr : (r : Int) < c.slots) {x : ByteArray} (he : s.d.writeE s.T.at_ x = 0) : Run c q (r + 1) (m + 1) ⟨s.T.count, s.lsn + 1, s.gen, s.d.writeS s.T.at_ x⟩ := by
  obtain ⟨p1, p2⟩ := writeS_pend he
  refine ⟨h.segs, h.slots, h.order, ?_, s.T.count_ok h.t (by rw [h.last, h.slots]; exact hr), ?_, h.gen, ?_, ?_⟩
  · show s.T.count.last = _
    rw [s.T.count_last h.t, h.last]; omega
  · show s.lsn + 1 = _
    rw [h.lsn]; omega
  · show (s.d.writeS _ _).pend.length = _
    rw [p1, h.pend]
  · show (s.d.writeS _ _).n = _
    rw [p2, h.n]
theorem Run.rolled (h : Run c q r m s) (hq : ((q + 1 : Nat) : Int) < c.segs) {x : ByteArray} (he : s.d.writeE s.T.at_ x = 0) (hm : m ≤ 10000) : Run c (q + 1) 0 (m + 1) ⟨s.T.roll ((q + 1 : Nat) : Int) (s.lsn + 1), s.lsn + 1, s.gen, s.d.writeS s.T.at_ x⟩ := by
  obtain ⟨p1, p2⟩ := writeS_pend he
  obtain ⟨l, hl⟩ := h.free hq
  have hf := (freeTo_mem s.T s.T.segs.toNat ((q + 1 : Nat) : Int)).1 (by rw [hl]; simp)
  have hlsn := h.lsn
  refine ⟨h.segs, h.slots, ?_, s.T.roll_last _ _, s.T.roll_ok h.t ⟨⟨by omega, by rw [h.segs]; omega⟩, hf.2⟩ (by omega), ?_, h.gen, ?_, ?_⟩
  · show s.T.order ++ _ = _
    rw [h.order, upTo_succ]
  · show s.lsn + 1 = _
    rw [h.lsn]; omega
  · show (s.d.writeS _ _).pend.length = _
    rw [p1, h.pend]
  · show (s.d.writeS _ _).n = _
    rw [p2, h.n]
end
/-- A record that may be put, wherever. -/
structure Puts (rc : Rec) : Prop where
  kind : rc.kind ≠ 3
  right : ∀ l : Int, 1 ≤ l → ({ rc with lsn := l, epoch := 1 } : Rec).right = true
  fits : rc.Fits
theorem Puts.recOf {rc : Rec} (h : Puts rc) {s : LSt} (hs : s.Ok) : (s.recOf 1 rc).right = true ∧ (s.recOf 1 rc).Fits := by
  have hl := hs.lsn
  obtain ⟨h1, h2, h3, h4, h5, h6, h7⟩ := h.fits
  exact ⟨h.right s.lsn (by omega), ⟨by show 0 ≤ s.lsn ∧ s.lsn < _; omega, by show (0 : Int) ≤ 1 ∧ (1 : Int) < _; omega, h3, h4, h5, h6, h7⟩⟩
section
variable {c : Cnf} {q r m : Nat} {s : LSt} {rc : Rec}
theorem Run.append_put (h : Run c q r m s) (hm : m ≤ 10000) (hp : Puts rc) (hr : (r : Int) < c.slots) : s.append 1 rc = s.put 1 rc := by
  have hR := (hp.recOf (h.ok hm)).1
  unfold LSt.append
  rw [if_neg (fun h' => h'.elim hp.kind (fun h' => by rw [hR] at h'; cases h')), if_neg (fun h' => by have := (h.room.1 h').1; omega), if_neg (by rw [h.last, h.slots]; omega)]
theorem Run.append_roll (h : Run c q r m s) (hm : m ≤ 10000) (hp : Puts rc) (hr : (r : Int) = c.slots) (hq : ((q + 1 : Nat) : Int) < c.segs) : s.append 1 rc = if (s.seal 1).1 = 0 then (s.seal 1).2.put 1 rc else ((s.seal 1).1, 0, 0, (s.seal 1).2) := by
  have hR := (hp.recOf (h.ok hm)).1
  unfold LSt.append
  rw [if_neg (fun h' => h'.elim hp.kind (fun h' => by rw [hR] at h'; cases h')), if_neg (fun h' => by have := (h.room.1 h').2; omega), if_pos (by rw [h.last, h.slots]; omega)]
theorem Run.append_full (h : Run c q r m s) (hm : m ≤ 10000) (hp : Puts rc) (hr : (r : Int) = c.slots) (hq : ((q + 1 : Nat) : Int) = c.segs) : s.append 1 rc = (10, 0, 0, s) := by
  have hR := (hp.recOf (h.ok hm)).1
  unfold LSt.append
  rw [if_neg (fun h' => h'.elim hp.kind (fun h' => by rw [hR] at h'; cases h')), if_pos (h.room.2 ⟨hr, hq⟩)]
theorem Run.seal_is (h : Run c q r m s) (hq : ((q + 1 : Nat) : Int) < c.segs) (epoch : Int) : s.seal epoch = if rollE s.d s.T s.lsn epoch ((q + 1 : Nat) : Int) = 0 then (0, ⟨s.T.roll ((q + 1 : Nat) : Int) (s.lsn + 1), s.lsn + 1, s.gen, s.d.writeS s.T.at_ (footR s.lsn epoch ((q + 1 : Nat) : Int)).sector⟩) else (rollE s.d s.T s.lsn epoch ((q + 1 : Nat) : Int), s) := by
  obtain ⟨l, hl⟩ := h.free hq
  unfold LSt.seal
  rw [hl]
end
end Go.Proofs.YthlbciinpidedaaGreat

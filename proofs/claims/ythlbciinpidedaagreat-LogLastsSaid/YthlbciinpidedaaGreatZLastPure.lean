/- What a checkpoint leaves, whatever a crash keeps of the next one; plain. -/
import Derived.Test.YthlbciinpidedaaGreatZFullPure
import Derived.Test.YthlbciinpidedaaGreatZBest
import Derived.Test.YthlbciinpidedaaGreatZK13
namespace Go.Proofs.YthlbciinpidedaaGreat
set_option linter.unusedSimpArgs false
set_option linter.unusedVariables false
set_option maxRecDepth 100000
open Go.RowKit

theorem enc_again (C : Chk) (j : Nat) (hj : j < 8) : C.enc[120 + j]? = (leB C.gen 8)[j]? := by
  have hb : C.body.length = 128 := by unfold Chk.body; rw [lists_length, head_length]
  unfold Chk.enc
  have h1 := laidAt_length C.body 116 (leB (crcOf (C.body.take 116)) 4) (by rw [leB_len, hb]; omega)
  rw [laidAt_at _ _ _ (by rw [leB_len, h1, hb]; omega), leB_len, if_pos (by omega)]
  congr 1
  omega
theorem enc_first (C : Chk) (hR : C.Right) (j : Nat) (hj : j < 8) : C.enc[j]? = (leB C.gen 8)[j]? := by
  rw [enc_head C hR j (by omega), head_at C j (by omega), if_pos hj]
theorem mixed_at (a b : List UInt8) (k : Nat) (h : a.length = 128) (h' : b.length = 128) (hk : k ≤ 128) (i : Nat) : (a.take k ++ b.drop k)[i]? = if i < k then a[i]? else b[i]? := by
  have hl : (a.take k).length = k := by rw [List.length_take]; omega
  by_cases hi : i < k
  · rw [List.getElem?_append_left (by omega), if_pos hi, List.getElem?_take_of_lt hi]
  · rw [List.getElem?_append_right (by omega), if_neg hi, hl, List.getElem?_drop]
    congr 1
    omega
theorem decC_some {l : List UInt8} {C : Chk} (h : decC l = some C) : C.Right ∧ C.enc = l := by
  unfold decC at h
  split at h
  · rename_i hc
    cases h
    exact ⟨hc.2.2.1, hc.2.2.2⟩
  · cases h
/-- A sector with one checkpoint's first bytes, and another one's behind these. -/
theorem mix_dec (A B : Chk) (hA : A.Right) (hA' : A.Nums) (hB : B.Right) (hB' : B.Nums) (hlow : (leB A.gen 8)[0]? ≠ (leB B.gen 8)[0]?) (k : Nat) (hk : k ≤ 128) :
    decC (A.enc.take k ++ B.enc.drop k) = some A ∨ decC (A.enc.take k ++ B.enc.drop k) = some B ∨ decC (A.enc.take k ++ B.enc.drop k) = none := by
  have hm := mixed_at A.enc B.enc k (enc_length A) (enc_length B) hk
  generalize A.enc.take k ++ B.enc.drop k = l at hm ⊢
  by_cases h0 : k = 0
  · right; left
    have e : l = B.enc := List.ext_getElem? fun i => by rw [hm, if_neg (by omega)]
    rw [e]
    exact decC_enc B hB hB'
  cases hd : decC l with
  | none => exact .inr (.inr rfl)
  | some C =>
    obtain ⟨hC, he⟩ := decC_some hd
    have f := fun j hj => enc_first C hC j hj
    have g := fun j hj => enc_again C j hj
    rw [he] at f g
    by_cases h1 : k ≤ 120
    · exfalso
      apply hlow
      rw [← enc_first A hA 0 (by omega), ← enc_again B 0 (by omega)]
      have f0 := f 0 (by omega)
      have g0 := g 0 (by omega)
      rw [hm, if_pos (by omega)] at f0
      rw [hm, if_neg (by omega)] at g0
      rw [f0, g0]
    · left
      have e : l = A.enc := List.ext_getElem? fun i => by
        by_cases hi : i < k
        · rw [hm, if_pos hi]
        · by_cases hi2 : i < 128
          · have hj : i = 120 + (i - 120) := by omega
            have f1 := f (i - 120) (by omega)
            rw [hm, if_pos (by omega)] at f1
            have g1 := g (i - 120) (by omega)
            have a1 := enc_again A (i - 120) (by omega)
            have a2 := enc_first A hA (i - 120) (by omega)
            rw [← hj] at g1 a1
            rw [g1, ← f1, a2, a1]
          · rw [hm, if_neg hi, List.getElem?_eq_none (by rw [enc_length]; omega), List.getElem?_eq_none (by rw [enc_length]; omega)]
      rw [← hd, e]
      exact decC_enc A hA hA'
theorem holds_do (d : Dsk) (p : Int × ByteArray) (i : Int) : (d.do_ p).holds i = if p.1 = i then p.2 else d.holds i := by
  show (if i = p.1 then some p.2 else d.held i).getD zeros = _
  by_cases h : p.1 = i
  · rw [if_pos h, if_pos h.symm]; rfl
  · rw [if_neg h, if_neg (fun e => h e.symm)]; rfl
theorem holds_doAll_no (i : Int) : ∀ (l : List (Int × ByteArray)) (d : Dsk), (∀ p ∈ l, p.1 ≠ i) → (d.doAll l).holds i = d.holds i
  | [], _, _ => rfl
  | p :: l, d, h => by
    show ((d.do_ p).doAll l).holds i = _
    rw [holds_doAll_no i l _ (fun q hq => h q (List.mem_cons_of_mem _ hq)), holds_do, if_neg (h p List.mem_cons_self)]
theorem good_doAll : ∀ (l : List (Int × ByteArray)) (d : Dsk), d.Good → (∀ p ∈ l, p.2.size = 128) → (d.doAll l).Good
  | [], _, h, _ => h
  | p :: l, d, h, hl => good_doAll l (d.do_ p) (h.do_ (hl p List.mem_cons_self)) (fun q hq => hl q (List.mem_cons_of_mem _ hq))
theorem good_flush {d : Dsk} (h : d.Good) : d.flush.Good := ⟨fun p hp => (List.not_mem_nil (show p ∈ [] from hp)).elim, (good_doAll d.pend d.use h h.1).2⟩
theorem holds_flush (d : Dsk) (i : Int) (h : ∀ p ∈ d.pend, p.1 ≠ i) : d.flush.holds i = d.holds i := holds_doAll_no i d.pend d.use h
theorem holds_one (d : Dsk) (h : d.pend = []) (i j : Int) (s : ByteArray) : ((d.write i s).flush).holds j = if i = j then s else d.holds j := by
  have e : ((d.write i s).flush).holds j = (((d.write i s).use).do_ (i, s)).holds j := by
    show (((d.write i s).use).doAll (d.pend ++ [(i, s)])).holds j = _
    rw [h]
    rfl
  rw [e, holds_do]
  rfl
/-- A disk whose first checkpoint's sector is as it was made. -/
structure Base1 (c : Cnf) (d : Dsk) : Prop where
  good : d.Good
  far : ∀ p ∈ d.pend, 2 ≤ p.1
  one : d.holds 1 = ⟨(fmtC c).enc.toArray⟩
theorem Base1.write {c : Cnf} {d : Dsk} (h : Base1 c d) {i : Int} {s : ByteArray} (hi : 2 ≤ i) (hs : s.size = 128) : Base1 c (d.write i s) :=
  ⟨h.good.write hs, fun p hp => by
    rcases List.mem_append.1 hp with hp | hp
    · exact h.far p hp
    · simp at hp; subst hp; exact hi, h.one⟩
theorem good_new (n : Int) : (newDsk n).Good := ⟨fun p hp => (List.not_mem_nil (show p ∈ [] from hp)).elim, fun i s h => nomatch (show none = some s from h)⟩
theorem base1_made (n : Int) (hn : 2 ≤ n) (c : Cnf) : Base1 c (madeD n c) := by
  have hs := enc_size (fmtC c)
  unfold madeD
  obtain ⟨s, hse⟩ : ∃ s, (⟨(fmtC c).enc.toArray⟩ : ByteArray) = s := ⟨_, rfl⟩
  rw [hse] at hs ⊢
  have e : fmtD n s = (((newDsk n).flush).write 1 s).flush := by
    have h1 : (newDsk n).flushS = (newDsk n).flush := rfl
    have h2 := (free_write (newDsk n).flush rfl 1 s ⟨by omega, by show (1 : Int) < n; omega⟩ hs).2
    have h3 : (((newDsk n).flush).write 1 s).flushS = (((newDsk n).flush).write 1 s).flush := rfl
    unfold fmtD
    rw [h1, h2, h3]
  rw [e]
  have hg := good_flush (good_new n)
  have hp : (newDsk n).flush.pend = [] := rfl
  refine ⟨good_flush (hg.write hs), fun p hp => (List.not_mem_nil (show p ∈ [] from hp)).elim, ?_⟩
  rw [holds_one _ hp, if_pos rfl, hse]
theorem at_far (T : Tab) (hT : T.Ok) : 2 ≤ T.at_ := by
  have ho : 0 ≤ T.open_ ∧ T.open_ < T.segs := hT.inn _ (List.mem_of_getElem? (T.open_at hT))
  have hl := T.len_in hT T.open_
  have hs := hT.slots
  have hm : 0 ≤ T.open_ * (T.slots + 1) := Int.mul_nonneg ho.1 (by omega)
  unfold Tab.at_ secOf
  omega
/-- In order, on a disk without a limit, the first checkpoint as it was made. -/
structure LRun (c : Cnf) (q r m : Nat) (s : LSt) : Prop where
  f : FRun c q r m s
  b : Base1 c s.d
section
variable {c : Cnf} {q r m : Nat} {s : LSt} {rc : Rec}
theorem LRun.put (h : LRun c q r m s) (hm : m ≤ 10000) (hp : Puts rc) (hr : (r : Int) < c.slots) : ∃ s', s.append 1 rc = (0, (q : Int), (r : Int), s') ∧ LRun c q (r + 1) (m + 1) s' := by
  obtain ⟨s', e, hF⟩ := h.f.put hm hp hr
  have e2 := (h.f.g.put hm hp (by rw [h.f.run.last]; exact hr)).1
  refine ⟨s', e, hF, ?_⟩
  rw [e2] at e
  have e3 := congrArg (fun x => x.2.2.2.d) e
  rw [← show _ = s'.d from e3]
  exact h.b.write (at_far _ h.f.run.t) (Rec.sector_size (h.f.g.puts hm hp))
theorem LRun.roll (h : LRun c q r m s) (hm : m ≤ 1000) (hp : Puts rc) (hr : (r : Int) = c.slots) (hq : ((q + 1 : Nat) : Int) < c.segs) : ∃ s', s.append 1 rc = (0, ((q + 1 : Nat) : Int), ((0 : Nat) : Int), s') ∧ LRun c (q + 1) 1 (m + 2) s' := by
  obtain ⟨s', e, hF⟩ := h.f.roll hm hp hr hq
  obtain ⟨l, hl⟩ := h.f.run.free hq
  have e2 := (h.f.g.roll (rc := rc) (by omega) hp (by rw [h.f.run.last]; exact hr) hl)
  refine ⟨s', e, hF, ?_⟩
  rw [e2.1] at e
  have e3 := congrArg (fun x => x.2.2.2.d) e
  rw [← show _ = s'.d from e3]
  have hlsn := h.f.run.lsn
  have hsg := h.f.run.t.segs
  rw [h.f.run.segs] at hsg
  have hf := (freeTo_mem s.T s.T.segs.toNat ((q + 1 : Nat) : Int)).1 (by rw [hl]; simp)
  have ht2 : (s.T.roll ((q + 1 : Nat) : Int) (s.lsn + 1)).Ok := s.T.roll_ok h.f.run.t ⟨⟨by omega, by rw [h.f.run.segs]; omega⟩, hf.2⟩ (by omega)
  exact (h.b.write (at_far _ h.f.run.t) (Rec.sector_size (footR_right _ _ _ (by omega) (by omega)))).write (at_far _ ht2) (Rec.sector_size (hp.right _ (by omega)))
theorem lrun_start {c : Cnf} (h : c.may = true) (h2 : 2 ≤ c.sectors) : LRun c 0 0 0 (startS c) := ⟨frun_start h h2, base1_made _ h2 c⟩
end
/-- A disk with nothing pending, and what its first two sectors hold. -/
structure Duo (d : Dsk) (n : Int) (a b : ByteArray) : Prop where
  good : d.Good
  n : d.n = n
  none : d.pend = []
  zero : d.holds 0 = a
  one : d.holds 1 = b
theorem Duo.limit {d : Dsk} {n : Int} {a b : ByteArray} (h : Duo d n a b) (l : Int) : Duo (d.limit l) n a b := ⟨h.good, h.n, h.none, h.zero, h.one⟩
theorem LRun.ck {c : Cnf} {q r m : Nat} {s : LSt} (h : LRun c q r m s) (a : ByteArray) (ha : a.size = 128) : Duo (((s.d.flush).write 0 a).flush) s.d.n a ⟨(fmtC c).enc.toArray⟩ := by
  obtain ⟨f1, f2, f3⟩ := flush_is ((s.d.flush).write 0 a)
  obtain ⟨g1, g2, g3⟩ := flush_is s.d
  refine ⟨good_flush ((good_flush h.b.good).write ha), f2.trans g2, f3, ?_, ?_⟩
  · rw [holds_one _ g3, if_pos rfl]
  · rw [holds_one _ g3, if_neg (by decide), holds_flush _ _ (fun p hp => by have := h.b.far p hp; omega)]
    exact h.b.one
/-- .. the second one's last write maybe pending. -/
def Late (d : Dsk) (n : Int) (a b b' : ByteArray) : Prop := d.Good ∧ d.n = n ∧ ((Duo d n a b ∨ Duo d n a b') ∨ d.pend = [(1, b')] ∧ d.holds 0 = a ∧ d.holds 1 = b)
theorem flushS_two {d : Dsk} {n : Int} {a b : ByteArray} (h : Duo d n a b) : Duo d.flushS n a b := by
  unfold Dsk.flushS
  split
  · exact h
  · obtain ⟨g1, g2, g3⟩ := flush_is d
    have hn := h.none
    exact ⟨good_flush h.good, g2.trans h.n, g3, (holds_flush _ _ (by rw [hn]; simp)).trans h.zero, (holds_flush _ _ (by rw [hn]; simp)).trans h.one⟩
theorem ck_late {d : Dsk} {n : Int} {a b b' : ByteArray} (h : Duo d n a b) (hb : b'.size = 128) (hn : 2 ≤ n) : Late (ckDo d 2 b').2.2 n a b b' := by
  have h1 := flushS_two h
  have e3 : ((2 : Int) + 1) % 2 = 1 := rfl
  unfold ckDo
  rw [e3]
  by_cases c1 : d.flushE ≠ 0
  · rw [if_pos c1]
    exact ⟨h.good, h.n, .inl (.inl h)⟩
  rw [if_neg c1]
  by_cases c2 : d.flushS.writeE 1 b' ≠ 0
  · rw [if_pos c2]
    exact ⟨h1.good, h1.n, .inl (.inl h1)⟩
  rw [if_neg c2]
  have c2' : d.flushS.writeE 1 b' = 0 := Classical.not_not.1 c2
  have ew : d.flushS.writeS 1 b' = d.flushS.write 1 b' := by unfold Dsk.writeS; rw [if_pos c2']
  rw [ew]
  generalize d.flushS = x at h1
  by_cases c3 : (x.write 1 b').flushE ≠ 0
  · rw [if_pos c3]
    refine ⟨h1.good.write hb, h1.n, .inr ⟨?_, h1.zero, h1.one⟩⟩
    show x.pend ++ [(1, b')] = _
    rw [h1.none]
    rfl
  rw [if_neg c3]
  have ef : (x.write 1 b').flushS = (x.write 1 b').flush := by
    unfold Dsk.flushS
    rw [if_neg]
    intro hd
    apply c3
    unfold Dsk.flushE
    rw [if_pos hd]
    decide
  obtain ⟨g1, g2, g3⟩ := flush_is (x.write 1 b')
  have ht : Duo (x.write 1 b').flush n a b' := by
    refine ⟨good_flush (h1.good.write hb), g2.trans h1.n, g3, ?_, ?_⟩
    · rw [holds_one _ h1.none, if_neg (by decide), h1.zero]
    · rw [holds_one _ h1.none, if_pos rfl]
  show Late (x.write 1 b').flushS n a b b'
  rw [ef]
  exact ⟨ht.good, ht.n, .inl (.inr ht)⟩
theorem cut_le (t : Int) : cutAt t ≤ 128 := by unfold cutAt; omega
/-- .. and behind a crash. -/
theorem late_crash {d : Dsk} {n : Int} {a b b' : ByteArray} (h : Late d n a b b') (keep : List Bool) (torn t : Int) : Duo (d.crash keep torn t) n a b ∨ Duo (d.crash keep torn t) n a b' ∨ ∃ k, k ≤ 128 ∧ Duo (d.crash keep torn t) n a (mix b' b k) := by
  obtain ⟨hg, hn, h⟩ := h
  have hG := Dsk.Good.crash hg keep torn t
  have hN : (d.crash keep torn t).n = n := (Dsk.crashTo_kept d keep torn t d.pend d.pend.length).2.trans hn
  have hp : (d.crash keep torn t).pend = [] := rfl
  have hc : ∀ i, (d.crash keep torn t).holds i = (d.crashTo keep torn t d.pend d.pend.length).holds i := fun _ => rfl
  rcases h with (h | h) | ⟨h1, h2, h3⟩
  · left
    refine ⟨hG, hN, hp, ?_, ?_⟩
    · rw [hc, h.none]; exact h.zero
    · rw [hc, h.none]; exact h.one
  · right; left
    refine ⟨hG, hN, hp, ?_, ?_⟩
    · rw [hc, h.none]; exact h.zero
    · rw [hc, h.none]; exact h.one
  · have e : ∀ i, (d.crash keep torn t).holds i = (d.crash1 keep torn t 0 (1, b')).holds i := fun i => by rw [hc, h1]; rfl
    unfold Dsk.crash1 at e
    by_cases k1 : keep[0]? = some true
    · right; left
      rw [if_pos k1] at e
      refine ⟨hG, hN, hp, ?_, ?_⟩
      · rw [e, holds_do, if_neg (show ¬ (1 : Int) = 0 by decide), h2]
      · rw [e, holds_do, if_pos rfl]
    · rw [if_neg k1] at e
      by_cases k2 : ((0 : Nat) : Int) = torn
      · right; right
        rw [if_pos k2] at e
        unfold Dsk.tear at e
        refine ⟨cutAt t, cut_le t, hG, hN, hp, ?_, ?_⟩
        · rw [e, holds_do, if_neg (show ¬ (1 : Int) = 0 by decide), h2]
        · rw [e, holds_do, if_pos rfl, h3]
      · left
        rw [if_neg k2] at e
        exact ⟨hG, hN, hp, (e 0).trans h2, (e 1).trans h3⟩
theorem Duo.reads {d : Dsk} {n : Int} {a b : ByteArray} (h : Duo d n a b) (hn : 2 ≤ n) : d.readV 0 = a ∧ d.readV 1 = b := by
  have e : ∀ i, d.read i = d.holds i := fun i => by unfold Dsk.read; rw [h.none]; rfl
  unfold Dsk.readV
  rw [if_pos (by rw [h.n]; omega), if_pos (by rw [h.n]; omega), e, e]
  exact ⟨h.zero, h.one⟩
/-- What stands behind the crash: one of both sectors has what the checkpoint told, or a later one. -/
theorem last_best {c : Cnf} (hm : c.may = true) (T : Tab) (hT : T.Ok) (lsn ver : Int) (hl : 1 ≤ lsn ∧ lsn < 1000000) (hv : 0 ≤ ver ∧ ver < 1000000) {d : Dsk} {n : Int} (hn : 2 ≤ n) (h : Duo d n ⟨(T.chk 2 1 lsn ver).enc.toArray⟩ ⟨(fmtC c).enc.toArray⟩)
    (L : Int) (keep : List Bool) (torn t : Int) :
    ∃ (C : Chk) (i : Int), bestC (decC (((ckDo (d.limit L) 2 ⟨(T.chk 3 1 lsn 99).enc.toArray⟩).2.2.crash keep torn t).readV 0).data.toList) (decC (((ckDo (d.limit L) 2 ⟨(T.chk 3 1 lsn 99).enc.toArray⟩).2.2.crash keep torn t).readV 1).data.toList) = some (C, i) ∧
      C.order = T.order ∧ C.lens = T.lens ∧ C.Right ∧ (C.gen = 2 ∨ C.gen = 3) ∧ (C.ver = ver ∨ C.ver = 99) := by
  have hR2 := T.chk_right hT 2 1 lsn ver (by decide) (by omega)
  have hR3 := T.chk_right hT 3 1 lsn 99 (by decide) (by omega)
  have hN2 : (T.chk 2 1 lsn ver).Nums := ⟨(show (0 : Int) ≤ 2 ∧ (2 : Int) < 18446744073709551616 by decide), (show (0 : Int) ≤ 1 ∧ (1 : Int) < 4294967296 by decide), ⟨by show 0 ≤ lsn; omega, by show lsn < _; omega⟩, ⟨by show 0 ≤ ver; omega, by show ver < _; omega⟩⟩
  have hN3 : (T.chk 3 1 lsn 99).Nums := ⟨(show (0 : Int) ≤ 3 ∧ (3 : Int) < 18446744073709551616 by decide), (show (0 : Int) ≤ 1 ∧ (1 : Int) < 4294967296 by decide), ⟨by show 0 ≤ lsn; omega, by show lsn < _; omega⟩, (show (0 : Int) ≤ 99 ∧ (99 : Int) < 18446744073709551616 by decide)⟩
  obtain ⟨hg, hs⟩ := Cnf.may_in hm
  have hR1 : (fmtC c).Right := Tab.chk_right _ (newTab_ok _ _ _ hg hs (by decide)) _ _ _ _ (by decide) (by decide)
  have hN1 : (fmtC c).Nums := ⟨(show (0 : Int) ≤ 1 ∧ (1 : Int) < 18446744073709551616 by decide), (show (0 : Int) ≤ 1 ∧ (1 : Int) < 4294967296 by decide), (show (0 : Int) ≤ 1 ∧ (1 : Int) < 18446744073709551616 by decide), (show (0 : Int) ≤ 0 ∧ (0 : Int) < 18446744073709551616 by decide)⟩
  have hk := ck_late (b' := ⟨(T.chk 3 1 lsn 99).enc.toArray⟩) (h.limit L) (enc_size _) hn
  have hc := late_crash hk keep torn t
  generalize (ckDo (d.limit L) 2 ⟨(T.chk 3 1 lsn 99).enc.toArray⟩).2.2.crash keep torn t = x at hc ⊢
  have d1 : decC (fmtC c).enc = some (fmtC c) := decC_enc _ hR1 hN1
  have d2 : decC (T.chk 2 1 lsn ver).enc = some (T.chk 2 1 lsn ver) := decC_enc _ hR2 hN2
  have d3 : decC (T.chk 3 1 lsn 99).enc = some (T.chk 3 1 lsn 99) := decC_enc _ hR3 hN3
  have key : decC (x.readV 0).data.toList = some (T.chk 2 1 lsn ver) ∧ (decC (x.readV 1).data.toList = some (T.chk 3 1 lsn 99) ∨ decC (x.readV 1).data.toList = some (fmtC c) ∨ decC (x.readV 1).data.toList = none) := by
    rcases hc with h | h | ⟨k, hk, h⟩
    · obtain ⟨r0, r1⟩ := h.reads hn
      rw [r0, r1]
      exact ⟨d2, .inr (.inl d1)⟩
    · obtain ⟨r0, r1⟩ := h.reads hn
      rw [r0, r1]
      exact ⟨d2, .inl d3⟩
    · obtain ⟨r0, r1⟩ := h.reads hn
      rw [r0, r1]
      exact ⟨d2, mix_dec (T.chk 3 1 lsn 99) (fmtC c) hR3 hN3 hR1 hN1 (show (leB 3 8)[0]? ≠ (leB 1 8)[0]? from by decide) k hk⟩
  obtain ⟨k0, k1 | k1 | k1⟩ := key
  · rw [k0, k1]
    exact ⟨_, 1, if_pos (e := some (T.chk 2 1 lsn ver, 0)) (show (2 : Int) < 3 by decide), rfl, rfl, hR3, .inr rfl, .inr rfl⟩
  · rw [k0, k1]
    exact ⟨_, 0, if_neg (t := some (fmtC c, 1)) (show ¬ (2 : Int) < 1 by decide), rfl, rfl, hR2, .inl rfl, .inl rfl⟩
  · rw [k0, k1]
    exact ⟨_, 0, rfl, rfl, rfl, hR2, .inl rfl, .inl rfl⟩
end Go.Proofs.YthlbciinpidedaaGreat

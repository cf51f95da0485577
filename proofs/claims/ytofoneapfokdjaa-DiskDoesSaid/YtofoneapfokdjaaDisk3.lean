/- Contracts of the disk's methods, on: Crash. -/
import Derived.Test.YtofoneapfokdjaaDisk2
namespace Go.Proofs.Ytofoneapfokdjaa
set_option linter.unusedSimpArgs false
set_option linter.unusedVariables false
open Go.RowKit
attribute [local go_sem high] run_mx run_mn

/-- All that is held or pending is of a sector's size. -/
def Dsk.Good (d : Dsk) : Prop := (∀ p ∈ d.pend, p.2.size = 128) ∧ ∀ i s, d.held i = some s → s.size = 128
theorem zeros_size : zeros.size = 128 := by show (Array.replicate 128 (0 : UInt8)).size = 128; rw [Array.size_replicate]
theorem Dsk.Good.holds {d : Dsk} (h : d.Good) (i : Int) : (d.holds i).size = 128 := by
  unfold Dsk.holds
  cases hs : d.held i with
  | none => exact zeros_size
  | some s => exact h.2 i s hs
theorem mix_size (s r : ByteArray) (k : Nat) (hs : s.size = 128) (hr : r.size = 128) (hk : k ≤ 128) : (mix s r k).size = 128 := by
  have hsl : s.data.toList.length = 128 := by rw [Array.length_toList]; exact hs
  have hrl : r.data.toList.length = 128 := by rw [Array.length_toList]; exact hr
  show (s.data.toList.take k ++ r.data.toList.drop k).toArray.size = 128
  rw [List.size_toArray, List.length_append, List.length_take, List.length_drop, hsl, hrl]
  omega
theorem Dsk.Good.do_ {d : Dsk} (h : d.Good) {p : Int × ByteArray} (hp : p.2.size = 128) : (d.do_ p).Good := by
  refine ⟨h.1, fun i s hs => ?_⟩
  unfold Dsk.do_ upd at hs
  simp only at hs
  split at hs
  · cases hs; exact hp
  · exact h.2 i s hs
theorem cutAt_le (a : Int) : cutAt a ≤ 128 := by unfold cutAt; omega
theorem Dsk.Good.tear {d : Dsk} (h : d.Good) {p : Int × ByteArray} (hp : p.2.size = 128) (a : Int) : (d.tear p a).Good := Good.do_ h (mix_size _ _ _ hp (h.holds _) (cutAt_le a))
theorem Dsk.Good.use {d : Dsk} (h : d.Good) : d.use.Good := h
theorem Dsk.Good.write {d : Dsk} (h : d.Good) {i : Int} {s : ByteArray} (hs : s.size = 128) : (d.write i s).Good :=
  ⟨fun p hp => by
    rcases List.mem_append.1 hp with hp | hp
    · exact h.1 p hp
    · simp at hp; subst hp; exact hs, h.2⟩

/-- What a crash does with the write at place k. -/
def Dsk.crash1 (d : Dsk) (keep : List Bool) (torn at_ : Int) (k : Nat) (p : Int × ByteArray) : Dsk :=
  if keep[k]? = some true then d.do_ p else if (k : Int) = torn then d.tear p at_ else d
/-- .. and with the first k writes of a list. -/
def Dsk.crashTo (d : Dsk) (keep : List Bool) (torn at_ : Int) (l : List (Int × ByteArray)) : Nat → Dsk
  | 0 => d
  | k + 1 => match l[k]? with
    | some p => (d.crashTo keep torn at_ l k).crash1 keep torn at_ k p
    | none => d.crashTo keep torn at_ l k
def Dsk.crash (d : Dsk) (keep : List Bool) (torn at_ : Int) : Dsk := { d.crashTo keep torn at_ d.pend d.pend.length with lim := false, left := 0, pend := [] }

theorem Dsk.crash1_kept (d : Dsk) (keep : List Bool) (torn at_ : Int) (k : Nat) (p : Int × ByteArray) : (d.crash1 keep torn at_ k p).pend = d.pend ∧ (d.crash1 keep torn at_ k p).n = d.n := by
  unfold crash1; split
  · exact ⟨rfl, rfl⟩
  · split <;> exact ⟨rfl, rfl⟩
theorem Dsk.crashTo_kept (d : Dsk) (keep : List Bool) (torn at_ : Int) (l : List (Int × ByteArray)) (k : Nat) : (d.crashTo keep torn at_ l k).pend = d.pend ∧ (d.crashTo keep torn at_ l k).n = d.n := by
  induction k with
  | zero => exact ⟨rfl, rfl⟩
  | succ k ih =>
    unfold crashTo
    split
    · have := crash1_kept (d.crashTo keep torn at_ l k) keep torn at_ k ‹_›
      exact ⟨this.1.trans ih.1, this.2.trans ih.2⟩
    · exact ih
theorem Dsk.Good.crashTo {d : Dsk} (h : d.Good) (keep : List Bool) (torn at_ : Int) (l : List (Int × ByteArray)) (hl : ∀ p ∈ l, p.2.size = 128) (k : Nat) : (d.crashTo keep torn at_ l k).Good := by
  induction k with
  | zero => exact h
  | succ k ih =>
    unfold Dsk.crashTo
    split
    · rename_i p hp
      have hps := hl p (List.mem_of_getElem? hp)
      unfold Dsk.crash1
      split
      · exact Good.do_ ih hps
      · split
        · exact Good.tear ih hps _
        · exact ih
    · exact ih
theorem Dsk.Good.crash {d : Dsk} (h : d.Good) (keep : List Bool) (torn at_ : Int) : (d.crash keep torn at_).Good :=
  ⟨by simp [Dsk.crash], (h.crashTo keep torn at_ d.pend h.1 _).2⟩

/-- A slice of bools that reads as a list, apart from some blocks. -/
def Bools (w : World) (S : Nat → Prop) (A : Option Addr) (n : Nat) (bs : List Bool) : Prop := bs.length = n ∧ ∀ k, k < n → ∃ ad, A = some ad ∧ ¬ S (ad.add k).block ∧ w.cell? (ad.add k) = some (.bool (bs[k]?.getD false))
theorem Bools.keep {w w' : World} {S T : Nat → Prop} {A : Option Addr} {n : Nat} {bs : List Bool} (h : Bools w S A n bs) (hf : Fr T w w') (hs : ∀ k, T k → S k) : Bools w' S A n bs :=
  ⟨h.1, fun k hk => by
    obtain ⟨ad, e, hn, hc⟩ := h.2 k hk
    exact ⟨ad, e, hn, hf.cell hc (fun ht => hn (hs _ ht))⟩⟩

set_option maxRecDepth 100000 in
set_option maxHeartbeats 1600000 in
theorem Crash_any (g b : Nat) (v : Value) (d : Dsk) (A : Option Addr) (n c : Nat) (bs : List Bool) (torn at_ : Int) (w : World) (h : DskAt w g b v d) (hG : d.Good) (hp : d.pend.length ≤ 1000000000) (hk : Bools w (foot g b v) A n bs) :
    Calls Try.prog 15 #[.pointer (some ⟨g, 0, none⟩), .slice A n c, .int .i64 torn, .int .i64 at_] w fun e w' => e = .returned (.tuple #[]) ∧
      DskAt w' g b (.slice none 0 0) (d.crash bs torn at_) ∧ Fr (foot g b v) w w' := by
  obtain ⟨c0, c1, c2, c3, c4⟩ := h.cells
  obtain ⟨P, pc, rfl, _⟩ := own_slice2 h.row
  go_enter Try.func15, Try.ntmps15
  go_wp2
  go_loopw [15] (fun i wr => ∃ k : Nat, k ≤ d.pend.length ∧ i = .int .i64 k ∧ DskAt wr g b (.slice P d.pend.length pc) (d.crashTo bs torn at_ d.pend k) ∧ Fr (foot g b (.slice P d.pend.length pc)) w wr) (fun i _ => d.pend.length - (intOf i).toNat)
  case atStart => exact ⟨0, by omega, rfl, h, Fr.refl _ _⟩
  case round =>
    clear c0 c1 c2 c3 c4 h
    obtain ⟨k, hkl, rfl, hD, hF⟩ := hrel
    by_cases hlt : k < d.pend.length
    · have hpk : (d.crashTo bs torn at_ d.pend k).pend[k]? = some d.pend[k] := by rw [(Dsk.crashTo_kept _ _ _ _ _ _).1]; exact List.getElem?_eq_getElem hlt
      obtain ⟨ad, rfl, c0, c1⟩ := hD.at_ hpk
      have hstep : d.crashTo bs torn at_ d.pend (k + 1) = (d.crashTo bs torn at_ d.pend k).crash1 bs torn at_ k d.pend[k] := by
        rw [Dsk.crashTo, List.getElem?_eq_getElem hlt]
      have hps : d.pend[k].2.size = 128 := hG.1 _ (List.getElem_mem _)
      have hGk := hG.crashTo bs torn at_ d.pend hG.1 k
      have hdo := fun (p : Int × ByteArray) => do_any g b _ _ p.1 p.2 _ (hD.alloc (.cells #[.int .i64 p.1, .string p.2] 66))
      have htr := fun (p : Int × ByteArray) hp => tear_any g b _ _ p.1 p.2 at_ _ (hD.alloc (.cells #[.int .i64 p.1, .string p.2] 66)) hp (hGk.holds _)
      have hD' := hD
      have hB := hk.keep hF (fun _ h => h)
      clear hpk hG
      generalize d.pend[k] = p at *
      replace hdo := hdo p
      replace htr := htr p hps
      clear hps hGk
      generalize d.crashTo bs torn at_ d.pend k = dk at *
      have hcase : (k < n ∧ ∃ ad : Addr, A = some ad ∧ wr.cell? (ad.add k) = some (.bool true) ∧ bs[k]? = some true) ∨ (k < n ∧ ∃ ad : Addr, A = some ad ∧ wr.cell? (ad.add k) = some (.bool false) ∧ bs[k]? ≠ some true) ∨ (¬ k < n ∧ bs[k]? ≠ some true) := by
        by_cases hkn : k < n
        · obtain ⟨ad2, e, _, hc⟩ := hB.2 k hkn
          have hl : k < bs.length := by rw [hB.1]; exact hkn
          rw [List.getElem?_eq_getElem hl] at hc ⊢
          cases hbk : bs[k] with
          | true => rw [hbk] at hc; exact .inl ⟨hkn, ad2, e, hc, rfl⟩
          | false => rw [hbk] at hc; exact .inr (.inl ⟨hkn, ad2, e, hc, by simp⟩)
        · exact .inr (.inr ⟨hkn, by rw [List.getElem?_eq_none (by rw [hB.1]; omega)]; simp⟩)
      clear hB hk
      rcases hcase with ⟨hkn, ad2, rfl, hc, hb⟩ | hcase
      · have hst : Hid (d.crashTo bs torn at_ d.pend (k + 1) = dk.do_ p) := by rw [hstep, Dsk.crash1, if_pos hb]; rfl
        have hc' := ((Fr.refl (fun _ => False) wr).alloc (.cells #[.int .i64 p.1, .string p.2] 66)).cell hc (fun h => h)
        clear hb hstep htr hD' hc
        go_wp2_with (go_at_call 27; refine hdo.mono ?_; rintro e w2 ⟨rfl, hD2, hF2⟩; have hF3 := (hF.alloc (.cells #[.int .i64 p.1, .string p.2] 66)).trans hF2 (fun _ _ e => e); clear hdo hF2)
        go_roundw
        case rel => exact ⟨k + 1, by omega, by go_num, by rw [hst.out]; exact hD2, hF3⟩
        case measure => simp [intOf]; omega
      · have hb : bs[k]? ≠ some true := by rcases hcase with ⟨_, _, _, _, h⟩ | ⟨_, h⟩ <;> exact h
        have hcase' : (k < n ∧ ∃ ad : Addr, A = some ad ∧ (wr.alloc (.cells #[.int .i64 p.1, .string p.2] 66)).cell? (ad.add k) = some (.bool false)) ∨ ¬ k < n := by
          rcases hcase with ⟨h1, ad, h2, h3, _⟩ | ⟨h1, _⟩
          · exact .inl ⟨h1, ad, h2, ((Fr.refl (fun _ => False) wr).alloc (.cells #[.int .i64 p.1, .string p.2] 66)).cell h3 (fun h => h)⟩
          · exact .inr h1
        clear hcase
        by_cases ht : (k : Int) = torn
        · have hst : Hid (d.crashTo bs torn at_ d.pend (k + 1) = dk.tear p at_) := by rw [hstep, Dsk.crash1, if_neg hb, if_pos ht]; rfl
          have ht1 : (k : Int) ≤ torn := by omega
          have ht2 : torn ≤ (k : Int) := by omega
          clear hb hstep hdo hD' ht
          rcases hcase' with ⟨hkn, ad2, rfl, hc⟩ | hkn
          all_goals
            go_wp2_with (go_at_call 28; refine htr.mono ?_; rintro e w2 ⟨rfl, hD2, hF2⟩; have hF3 := (hF.alloc (.cells #[.int .i64 p.1, .string p.2] 66)).trans hF2 (fun _ _ e => e); clear htr hF2)
            go_roundw
            case rel => exact ⟨k + 1, by omega, by go_num, by rw [hst.out]; exact hD2, hF3⟩
            case measure => simp [intOf]; omega
        · have hst : Hid (d.crashTo bs torn at_ d.pend (k + 1) = dk) := by rw [hstep, Dsk.crash1, if_neg hb, if_neg ht]; rfl
          clear hb hstep hdo htr
          rcases hcase' with ⟨hkn, ad2, rfl, hc⟩ | hkn
          all_goals
            go_wp2
            go_roundw
            case rel => exact ⟨k + 1, by omega, by go_num, by rw [hst.out]; exact hD'.alloc _, hF.alloc _⟩
            case measure => simp [intOf]; omega
    · obtain rfl : k = d.pend.length := by omega
      obtain ⟨c0, c1, c2, c3, c4⟩ := hD.cells
      have f0 := hD.free 0
      have f1 := hD.free 1
      have f4 := hD.free 4
      clear hk
      have e1 := ((hD.blk.set_ 4 (.slice none 0 0)).set_ 0 (.bool false)).set_ 1 (.int .i64 0)
      have e2 := ((hD.map.setCell (p := ⟨g, 4, none⟩) (fun e => hD.gb e.symm) (.slice none 0 0)).setCell (p := ⟨g, 0, none⟩) (fun e => hD.gb e.symm) (.bool false)).setCell (p := ⟨g, 1, none⟩) (fun e => hD.gb e.symm) (.int .i64 0)
      have hfin : DskAt (((wr.setCell ⟨g, 4, none⟩ (.slice none 0 0)).setCell ⟨g, 0, none⟩ (.bool false)).setCell ⟨g, 1, none⟩ (.int .i64 0)) g b (.slice none 0 0) (d.crash bs torn at_) :=
        ⟨e1, e2, World.ownsRow_nil .., by simp [Value.ownBlock], hD.gb, by simp [Value.ownBlock]⟩
      have HF := Lib.hid hfin
      clear hfin hD e1 e2
      go_wp2
      go_end0
      exact ⟨rfl, HF.out, ((hF.setCell (fun _ => .inl rfl) _).setCell (fun _ => .inl rfl) _).setCell (fun _ => .inl rfl) _⟩
end Go.Proofs.Ytofoneapfokdjaa

/- The walk of the law DiskLimit. -/
import Derived.Test.YtofoneapfokdjaaFixed05
import Derived.Test.YtofoneapfokdjaaRowKit
namespace Go.Proofs.Ytofoneapfokdjaa
open Go.RowKit
attribute [local go_sem high] run_mx run_mn

theorem Dsk.writeS_len (d : Dsk) (i : Int) (s : ByteArray) : (d.writeS i s).pend.length ≤ d.pend.length + 1 := by
  unfold Dsk.writeS
  split
  · show (d.pend ++ [(i, s)]).length ≤ _
    simp
  · omega
/-- What the law's loop knows of its disk: limited, of four sectors, 'left' as the law counts it. -/
structure Lim (d : Dsk) (left : Int) (k : Nat) : Prop where
  lim : d.lim = true
  n : d.n = 4
  left : left = max 0 d.left
  lo : -9223372036854775808 ≤ d.left
  hi : d.left ≤ 9223372036854775807
  pend : d.pend.length ≤ k
  good : d.Good

theorem Lim.dead {d : Dsk} {left : Int} {k : Nat} (h : Lim d left k) : d.dead = decide (left < 1) := by
  unfold Dsk.dead
  rw [h.lim, h.left, Bool.true_and]
  congr 1
  apply propext
  omega
theorem wrap_less (x : Int) (h : 1 ≤ x) (h' : x ≤ 9223372036854775807) : wrap64 (x - 1) = x - 1 := by unfold wrap64; omega

theorem Lim.flush {d : Dsk} {left : Int} {k : Nat} (h : Lim d left k) : Lim d.flushS (max 0 (left - 1)) (k + 1) ∧ d.flushE = (if left < 1 then 9 else 0) := by
  have hd := h.dead
  have hg := h.good.flushS
  unfold Dsk.flushS Dsk.flushE at *
  rw [hd] at hg ⊢
  by_cases hl : left < 1
  · rw [decide_eq_true hl] at hg ⊢
    rw [if_pos rfl] at hg ⊢
    rw [if_pos rfl, if_pos hl]
    exact ⟨⟨h.lim, h.n, by have := h.left; omega, h.lo, h.hi, by have := h.pend; omega, hg⟩, rfl⟩
  · rw [decide_eq_false hl] at hg ⊢
    rw [if_neg (by simp)] at hg ⊢
    rw [if_neg (by simp), if_neg hl]
    have hw := wrap_less d.left (by have := h.left; omega) h.hi
    have e1 : d.flush.left = d.left - 1 := by
      show (Dsk.doAll d.use d.pend).left = _
      rw [(Dsk.doAll_pend _ _).2.2.2]; exact hw
    refine ⟨⟨?_, ?_, by rw [e1]; have := h.left; omega, by rw [e1]; have := h.left; omega, by rw [e1]; have := h.hi; omega, by simp [Dsk.flush], hg⟩, rfl⟩
    · show (Dsk.doAll d.use d.pend).lim = true
      rw [(Dsk.doAll_pend _ _).2.2.1]; exact h.lim
    · show (Dsk.doAll d.use d.pend).n = 4
      rw [(Dsk.doAll_pend _ _).2.1]; exact h.n

theorem Lim.write {d : Dsk} {left : Int} {k : Nat} (h : Lim d left k) (i : Int) (s : ByteArray) (hi : 0 ≤ i ∧ i < 4) (hs : s.size = 128) : Lim (d.writeS i s) (max 0 (left - 1)) (k + 1) ∧ d.writeE i s = (if left < 1 then 9 else 0) := by
  have hd := h.dead
  have hg := h.good.writeS i s
  have he : d.writeE i s = (if left < 1 then 9 else 0) := by
    unfold Dsk.writeE
    rw [if_pos (by rw [h.n]; exact hi), if_pos hs, hd]
    by_cases hl : left < 1
    · rw [if_pos (by simpa using hl), if_pos hl]
    · rw [if_neg (by simpa using hl), if_neg hl]
  refine ⟨?_, he⟩
  unfold Dsk.writeS at hg ⊢
  rw [he] at hg ⊢
  by_cases hl : left < 1
  · rw [if_pos hl, if_neg (by omega)] at hg ⊢
    exact ⟨h.lim, h.n, by have := h.left; omega, h.lo, h.hi, by have := h.pend; omega, hg⟩
  · rw [if_neg hl, if_pos rfl] at hg ⊢
    have hw := wrap_less d.left (by have := h.left; omega) h.hi
    have e1 : (d.write i s).left = d.left - 1 := hw
    refine ⟨h.lim, h.n, by rw [e1]; have := h.left; omega, by rw [e1]; have := h.left; omega, by rw [e1]; have := h.hi; omega, ?_, hg⟩
    show (d.pend ++ [(i, s)]).length ≤ k + 1
    rw [List.length_append]
    have := h.pend
    simpa using this
theorem Lim.bad {d : Dsk} {left : Int} {k : Nat} (h : Lim d left k) (s : ByteArray) : d.writeE 9 s = 1 ∧ d.writeS 9 s = d := by
  have he : d.writeE 9 s = 1 := by
    unfold Dsk.writeE
    rw [if_neg (by rw [h.n]; omega)]
  exact ⟨he, by unfold Dsk.writeS; rw [he, if_neg (by omega)]⟩
theorem Lim.start (n : Int) (wn : (Lit.int .i64 n).wf = true) : Lim ((newDsk 4).limit n) (max 0 n) 0 := by
  have wn : -9223372036854775808 ≤ n ∧ n ≤ 9223372036854775807 := by simpa [Lit.wf, IntKind.min, IntKind.max, IntKind.signed, IntKind.bits] using wn
  exact ⟨rfl, rfl, rfl, wn.1, wn.2, Nat.le_refl _, (Dsk.Good.new 4).limit n⟩
theorem Lim.end_ {d : Dsk} {left : Int} {k : Nat} (h : Lim d left k) (s : ByteArray) (hs : s.size = 128) : (d.crash [] (-1) 0).writeE 0 s = 0 ∧ ((d.crash [] (-1) 0).writeS 0 s).flushE = 0 := by
  have hn : (d.crash [] (-1) 0).n = 4 := by
    show (d.crashTo [] (-1) 0 d.pend d.pend.length).n = 4
    rw [(Dsk.crashTo_kept _ _ _ _ _ _).2]; exact h.n
  have he : (d.crash [] (-1) 0).writeE 0 s = 0 := by
    unfold Dsk.writeE
    rw [if_pos (by rw [hn]; omega), if_pos hs]; rfl
  refine ⟨he, ?_⟩
  unfold Dsk.writeS
  rw [he, if_pos rfl]
  rfl

theorem fullY (w : World) : Calls Try.prog 11 #[.string ⟨#[121]⟩] w fun e w' => e = .returned (.string (full ⟨#[121]⟩)) ∧ w = w' := Full_any _ w (by decide)
theorem wrap_tmod (x n : Int) (h : 0 ≤ x ∧ x ≤ 255) : (IntKind.i64.wrap x).tmod n = x % n := by
  have e : IntKind.i64.wrap x = x := by rw [IntKind.wrap_i64]; omega
  rw [e, Int.tmod_eq_emod_of_nonneg h.1]
theorem IsInts.cell_ {k : IntKind} {bytes : Nat} {w wr : World} {A : Option Addr} {n c : Nat} {xs : List Int} (h : IsInts k bytes w A n c xs) (hb : Below w.heap.size w wr) {i : Nat} (hi : i < n) :
    ∃ ad x, A = some ad ∧ xs[i]? = some x ∧ (Lit.int k x).wf = true ∧ wr.cell? (ad.add i) = some (.int k x) ∧ (ad.add i).block < w.heap.size := by
  obtain ⟨ad, u, e, hb', hx, hc⟩ := (h.reads.below hb).at_ hi
  simp only [List.getElem?_map, Option.map_eq_some_iff] at hx
  obtain ⟨x, hx, rfl⟩ := hx
  exact ⟨ad, x, e, hx, h.wf x (List.mem_of_getElem? hx), hc, by rw [block_of_add]; exact hb'⟩

set_option maxRecDepth 100000 in
set_option maxHeartbeats 4000000 in
theorem walkDiskLimit (W : World) (A : Option Addr) (n c : Nat) (xs : List Int) (w1 : IsInts .u8 1 W A n c xs) (lim : Int) (wl : (Lit.int .i64 lim).wf = true) :
    Calls Try.prog 7 #[.slice A n c, .int .i64 lim] W fun e w' => e = .returned (.bool true) ∧ Below W.heap.size W w' := by
  have hst := Disks.start W
  have hcap := w1.cap
  have hle := w1.le
  unfold maxLen at hcap
  have hmx : mx 0 lim = max 0 lim := mx_def 0 lim
  have hstart := Lim.start lim wl
  clear wl
  go_enter Try.func7, Try.ntmps7
  go_wp2_with fail
  refine (DNew hst 4 (by omega) (by omega)).mono ?_
  rintro e w0 ⟨g, rfl, hD, _⟩
  clear hst
  go_wp2_with fail
  refine (DLimit [] [] hD lim).mono ?_
  clear hD
  rintro e w2 ⟨rfl, hD⟩
  replace hD : Disks W.heap.size W w2 [(g, (newDsk 4).limit lim)] := hD
  go_wp2_with fail
  go_loopw [7, 8] (fun lf i wr => ∃ (k : Nat) (d : Dsk) (left : Int), k ≤ n ∧ k ≤ 40 ∧ i = .int .i64 k ∧ lf = .int .i64 left ∧ Lim d left k ∧ Disks W.heap.size W wr [(g, d)]) (fun _ i _ => n - (intOf i).toNat)
  case atStart => exact ⟨0, _, _, by omega, by omega, rfl, rfl, hstart, hD⟩
  case round =>
    clear hstart hD hmx
    obtain ⟨k, d, left, hk, hk40, rfl, rfl, hL, hD⟩ := hrel
    have hl0 : 0 ≤ left ∧ left ≤ 9223372036854775807 := by have := hL.left; have := hL.hi; omega
    by_cases hlt : k < n ∧ k < 40
    · obtain ⟨hlt, hlt2⟩ := hlt
      obtain ⟨ad, x, rfl, hx, hwf, hcW, hbl⟩ := w1.cell_ (Below.refl _ _) hlt
      have hc := (hD.base.cell hbl).trans hcW
      have hwf : 0 ≤ x ∧ x ≤ 255 := by simpa [Lit.wf, IntKind.min, IntKind.max, IntKind.signed, IntKind.bits] using hwf
      have hp : d.pend.length ≤ 1000000000 := by have := hL.pend; omega
      have hnext : (max 0 (left - 1) : Int) = mx 0 (left - 1) := (mx_def _ _).symm
      clear hx w1
      have hcase : x % 4 = 0 ∨ x % 4 = 1 ∨ (2 ≤ x % 4 ∧ x % 4 < 4) := by omega
      rcases hcase with h4 | h4 | h4
      · have hfl := hL.flush
        obtain ⟨hL', hfe⟩ := hfl
        have hcall := DFlush [] [] hD hp
        rw [hfe] at hcall
        have HL := Lib.hid hL'
        clear hfe hL hL' hD
        by_cases hdead : left < 1
        · rw [if_pos hdead] at hcall
          go_wp2_with (go_at_call 13; refine hcall.mono ?_; rintro e w3 ⟨rfl, hD'⟩)
          go_roundw
          case rel => exact ⟨k + 1, _, _, by omega, by omega, by go_num, rfl, by first | exact HL.out | (rw [← hnext]; exact HL.out), hD'⟩
          case measure => simp [intOf]; omega
        · rw [if_neg hdead] at hcall
          go_wp2_with (go_at_call 13; refine hcall.mono ?_; rintro e w3 ⟨rfl, hD'⟩)
          go_roundw
          case rel => exact ⟨k + 1, _, _, by omega, by omega, by go_num, rfl, by first | exact HL.out | (rw [← hnext]; exact HL.out), hD'⟩
          case measure => simp [intOf]; omega
      · obtain ⟨hbe, hbs⟩ := hL.bad fixX
        have hcall := fun w (h : Disks W.heap.size W w [(g, d)]) => DWrite [] [] h 9 fixX hp
        rw [hbe, hbs] at hcall
        have HL := Lib.hid hL
        clear hbe hbs hL hnext
        go_wp2_with (first | (go_at_call 11; refine (fullX _).mono ?_; rintro e w3 ⟨rfl, rfl⟩) | (go_at_call 12; refine (hcall _ hD).mono ?_; rintro e w3 ⟨rfl, hD'⟩))
        go_roundw
        case rel => exact ⟨k + 1, _, _, by omega, by omega, by go_num, rfl, ⟨HL.out.lim, HL.out.n, HL.out.left, HL.out.lo, HL.out.hi, by have := HL.out.pend; omega, HL.out.good⟩, hD'⟩
        case measure => simp [intOf]; omega
      · obtain ⟨hL', hfe⟩ := hL.write (x % 4) fixX (by omega) (by decide)
        have hcall := fun w (h : Disks W.heap.size W w [(g, d)]) => DWrite [] [] h (x % 4) fixX hp
        rw [hfe] at hcall
        have HL := Lib.hid hL'
        clear hfe hL hL'
        have hval : (IntKind.i64.wrap x).tmod 4 = x % 4 := wrap_tmod x 4 hwf
        by_cases hdead : left < 1
        · rw [if_pos hdead] at hcall
          go_wp2_with fail
          go_region_held3 (fun w' => w'.cell? (ad.add k) = some (.int .u8 x)) (first | with_reducible exact hc | with_reducible exact (hD'.base.cell hbl).trans hcW | go_keep) (first | (go_at_call 11; refine (fullX _).mono ?_; rintro e w3 ⟨rfl, rfl⟩) | (go_at_call 12; (try rw [hval]); with_reducible refine (hcall _ hD.drew).mono ?_; rintro e w3 ⟨rfl, hD'⟩; clear hcall hD))
          go_wp2_with fail
          go_roundw
          case rel => exact ⟨k + 1, _, _, by omega, by omega, by go_num, rfl, by first | exact HL.out | (rw [← hnext]; exact HL.out), hD'⟩
          case measure => simp [intOf]; omega
        · rw [if_neg hdead] at hcall
          go_wp2_with fail
          go_region_held3 (fun w' => w'.cell? (ad.add k) = some (.int .u8 x)) (first | with_reducible exact hc | with_reducible exact (hD'.base.cell hbl).trans hcW | go_keep) (first | (go_at_call 11; refine (fullX _).mono ?_; rintro e w3 ⟨rfl, rfl⟩) | (go_at_call 12; (try rw [hval]); with_reducible refine (hcall _ hD.drew).mono ?_; rintro e w3 ⟨rfl, hD'⟩; clear hcall hD))
          go_wp2_with fail
          go_roundw
          case rel => exact ⟨k + 1, _, _, by omega, by omega, by go_num, rfl, by first | exact HL.out | (rw [← hnext]; exact HL.out), hD'⟩
          case measure => simp [intOf]; omega
    · have hgd : (k < n ∧ ¬ k < 40) ∨ ¬ k < n := by omega
      clear hlt w1
      have hp : d.pend.length ≤ 1000000000 := by have := hL.pend; omega
      have hg := hL.good
      obtain ⟨he1, he2⟩ := hL.end_ (full ⟨#[121]⟩) (by decide +kernel)
      have hc1 := fun w (h : Disks W.heap.size W w [(g, d)]) => DCrash [] [] h none 0 0 [] (-1) 0 hg hp (fun b v _ _ => ⟨rfl, fun k hk => by omega⟩)
      have hc2 := fun w (h : Disks W.heap.size W w [(g, d.crash [] (-1) 0)]) => DWrite [] [] h 0 (full ⟨#[121]⟩) (by simp [Dsk.crash])
      rw [he1] at hc2
      have hc3 := fun w (h : Disks W.heap.size W w [(g, (d.crash [] (-1) 0).writeS 0 (full ⟨#[121]⟩))]) => DFlush [] [] h (Nat.le_trans (Dsk.writeS_len _ _ _) (by simp [Dsk.crash]))
      rw [he2] at hc3
      clear he1 he2 hL hg
      rcases hgd with ⟨h1, h2⟩ | h1
      all_goals
        go_wp2_with (first
          | (go_at_call 15; refine (hc1 _ hD).mono ?_; rintro e w3 ⟨rfl, hD1⟩)
          | (go_at_call 11; refine (fullY _).mono ?_; rintro e w4 ⟨rfl, rfl⟩)
          | (go_at_call 12; refine (hc2 _ hD1).mono ?_; rintro e w5 ⟨rfl, hD2⟩)
          | (go_at_call 13; refine (hc3 _ hD2).mono ?_; rintro e w6 ⟨rfl, hD3⟩)
          | (go_at_call 17; refine (fixed_all _).mono ?_; rintro e w7 ⟨rfl, hB⟩))
        go_ret
        exact ⟨rfl, hD3.base.trans (hB.mono hD3.size)⟩
end Go.Proofs.Ytofoneapfokdjaa

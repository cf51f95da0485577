/- law07.Ref, lodgerref07.Right: a checkpoint for the document, and whether it may be. -/
import Derived.Test.YthlbciinpidedaaGreatZK15
import Derived.Test.YthlbciinpidedaaGreatZK22
namespace Go.Proofs.YthlbciinpidedaaGreat
set_option linter.unusedSimpArgs false
set_option linter.unusedVariables false
set_option maxRecDepth 100000
open Go.RowKit
attribute [local go_sem high] run_mx run_mn
set_option maxHeartbeats 2000000 in
theorem CRef_any (C : Chk) (AO : Option Addr) (cO : Nat) (AL : Option Addr) (cL : Nat) (w : World) :
    Calls Tryz.prog 49 #[.agg (chkCells C AO cO AL cL)] w fun e w' => e = .returned (.agg (chkCells C AO cO AL cL)) ∧ Newer w w' := by
  have hS2 := Now.pushCells (Now.pushCells (Sep.start w) 102 (chkCells C AO cO AL cL)) 107 (chkCells C AO cO AL cL)
  simp only [World.size_alloc] at hS2
  replace hS2 := Lib.hid hS2
  go_enter Tryz.func49, Tryz.ntmps49
  go_wp2_with fail
  refine bodyPost_ret (v := .agg (chkCells C AO cO AL cL)) ?_ rfl ⟨rfl, Sep.base hS2.out⟩
  exact results_cell_row rfl _ _ _ _ _ (0, 0) _ (by simp) (Now.blk (pre := []) hS2.out) Tryz.underlying107 rfl (by kernel_rfl)
set_option maxHeartbeats 8000000 in
theorem RRight_yes (C : Chk) (hC : C.Right) (AO : Option Addr) (cO : Nat) (AL : Option Addr) (cL : Nat) (w : World) (h : ChkIn w w.heap.size C AO AL) :
    Calls Tryz.prog 48 #[.agg (chkCells C AO cO AL cL)] w fun e w' => e = .returned (.bool true) ∧ Newer w w' := by
  obtain ⟨n, hno⟩ : ∃ n, C.order.length = n := ⟨_, rfl⟩
  have hnl : C.lens.length = n := by rw [hC.len, hno]
  have h1 : (C.gen == 0) = false := beq_eq_false_iff_ne.2 hC.gen
  have h2 : (C.lsn == 0) = false := beq_eq_false_iff_ne.2 hC.lsn
  have h3 : ¬ (n : Int) < 1 := by have := hC.pos; omega
  have h4 : ¬ 16 < (n : Int) := by have := hC.many; omega
  have hn16 : n ≤ 16 := by omega
  have ro := h.o
  have rl := h.l
  rw [hno] at ro
  rw [hnl] at rl
  have RO := Lib.hid ro
  have RL := Lib.hid rl
  have HO := Lib.hid hno
  have HL := Lib.hid hnl
  have HC := Lib.hid hC.all
  unfold chkCells
  rw [hno, hnl]
  have hS := Now.pushCells (Sep.start w) 107 #[.int .u64 C.gen, .int .u32 C.epoch, .int .u64 C.lsn, .int .u64 C.ver, .slice AO n cO, .slice AL n cL]
  have hB := Sep.base hS
  have hx1 := Now.blk (pre := []) hS
  clear h ro rl hno hnl hC hS
  go_enter Tryz.func48, Tryz.ntmps48
  go_wp2_with fail
  generalize w.alloc (.cells #[.int .u64 C.gen, .int .u32 C.epoch, .int .u64 C.lsn, .int .u64 C.ver, .slice AO n cO, .slice AL n cL] 107) = wb at *
  go_loopw [4, 5] (fun i _ wr => ∃ k : Nat, k ≤ n ∧ i = .int .i64 k ∧ Newer wb wr) (fun i _ _ => n - (intOf i).toNat)
  case atStart => exact ⟨0, by omega, rfl, Newer.refl _⟩
  case round =>
    obtain ⟨k, hk, rfl, hN⟩ := hrel
    by_cases hlt : k < n
    case neg =>
      obtain rfl : k = n := by omega
      go_wp2_with fail
      go_ret
      exact ⟨rfl, hB.trans (hN.mono hB.size)⟩
    have hb1 := hx1.below hN hx1.lt
    have hki : (k : Int) < (n : Int) := by omega
    obtain ⟨x, hx⟩ : ∃ x, C.order[k]? = some x := ⟨_, List.getElem?_eq_getElem (by rw [HO.out]; exact hlt)⟩
    obtain ⟨y, hy⟩ : ∃ y, C.lens[k]? = some y := ⟨_, List.getElem?_eq_getElem (by rw [HL.out]; exact hlt)⟩
    obtain ⟨ad, rfl, had, ca⟩ := read_cell (u := .int .i64 x) RO.out hlt (by rw [List.getElem?_map, hx]; rfl)
    obtain ⟨bd, rfl, hbd, cb⟩ := read_cell (u := .int .i64 y) RL.out hlt (by rw [List.getElem?_map, hy]; rfl)
    have hat : (0 ≤ x ∧ x < 16) ∧ ¬ x ∈ C.order.take k ∧ 0 ≤ y ∧ y ≤ 30 := by
      have h0 := HC.out k (by rw [HO.out]; exact hlt)
      unfold Chk.at_ at h0
      rw [hx, hy] at h0
      exact h0
    have f1 : ¬ x < 0 := by omega
    have f2 : ¬ 15 < x := by omega
    have f3 : ¬ y < 0 := by omega
    have f4 : ¬ 30 < y := by omega
    have HNM := Lib.hid hat.2.1
    have hw := hB.trans (hN.mono hB.size)
    have c4 : wr.cell? ⟨w.heap.size, 4, none⟩ = some (.slice (some ad) n cO) := hb1.cell 4
    have c5 : wr.cell? ⟨w.heap.size, 5, none⟩ = some (.slice (some bd) n cL) := hb1.cell 5
    have xa : wr.cell? (ad.add k) = some (.int .i64 x) := (hw.cell (p := ad.add k) (by rw [block_of_add]; exact had)).trans ca
    have xb : wr.cell? (bd.add k) = some (.int .i64 y) := (hw.cell (p := bd.add k) (by rw [block_of_add]; exact hbd)).trans cb
    have HX := Lib.hid hx
    clear hx hy hat hb1 ca cb
    go_wp2_with fail
    clear c4 c5 xa xb
    go_loopw [5] (fun j wq => ∃ m : Nat, m ≤ k ∧ j = .int .i64 m ∧ Newer wb wq) (fun j _ => k - (intOf j).toNat)
    case atStart => exact ⟨0, by omega, rfl, hN⟩
    case round =>
      obtain ⟨m, hm, rfl, hN⟩ := hrel
      by_cases hltm : m < k
      case neg =>
        obtain rfl : m = k := by omega
        go_wp2_with fail
        go_roundw
        case rel => exact ⟨m + 1, by omega, by go_num, hN⟩
        case measure => simp [intOf]; omega
      have hmi : (m : Int) < (k : Int) := by omega
      have hmn : (m : Int) < (n : Int) := by omega
      obtain ⟨z, hz⟩ : ∃ z, C.order[m]? = some z := ⟨_, List.getElem?_eq_getElem (by rw [HO.out]; omega)⟩
      obtain ⟨ad', had', _, cz⟩ := read_cell (u := .int .i64 z) RO.out (show m < n by omega) (by rw [List.getElem?_map, hz]; rfl)
      obtain rfl : ad = ad' := Option.some.inj had'
      obtain ⟨ad', had'', _, ca⟩ := read_cell (u := .int .i64 x) RO.out hlt (by rw [List.getElem?_map, HX.out]; rfl)
      obtain rfl : ad = ad' := Option.some.inj had''
      have hzx : (z == x) = false := beq_eq_false_iff_ne.2 fun e => HNM.out (by rw [← e]; exact List.mem_of_getElem? (i := m) (by rw [List.getElem?_take_of_lt hltm]; exact hz))
      have hb1 := hx1.below hN hx1.lt
      have hcell : ∀ v, Newer wr.drew v → v.cell? (ad.add m) = some (.int .i64 z) ∧ v.cell? (ad.add k) = some (.int .i64 x) ∧ v.cell? ⟨w.heap.size, 4, none⟩ = some (.slice (some ad) n cO) := fun v hv =>
        have h1 := (hB.trans (hN.mono hB.size)).trans (hv.undrew.mono (Nat.le_trans hB.size hN.size))
        have hb2 := hb1.below hv.undrew hb1.lt
        ⟨(h1.cell (p := ad.add m) (by rw [block_of_add]; exact had)).trans cz, (h1.cell (p := ad.add k) (by rw [block_of_add]; exact had)).trans ca, hb2.cell 4⟩
      clear hz cz ca hb1 had' had''
      go_wp2_with fail
      refine wp_region_ord Newer.grow [(0, true), (1, true), (2, true), (3, true), (4, true), (5, true), (6, true), (7, true), (8, true), (9, true), (10, true)] [] (by kernel_rfl) (by kernel_rfl) rfl (by kernel_rfl) (by intro _ _ d _ _ h; cases d <;> exact h) ?_
      iterate 11
        (apply wpOrd_take
         · exact rfl
         · intro w1 h1
           (obtain ⟨c1, c2, c3⟩ := hcell w1 h1)
           go_simp
           first
             | with_reducible exact ⟨rfl, Newer.grow.refl _⟩
         simp only [Act.put, List.setIfInBounds_toArray, List.set_cons_zero, List.set_cons_succ])
      refine wpOrd_done fun w3 h3 => ?_
      go_wp2_with fail
      go_roundw
      case rel => exact ⟨m + 1, by omega, by go_num, hN.trans h3.undrew⟩
      case measure => simp [intOf]; omega
end Go.Proofs.YthlbciinpidedaaGreat

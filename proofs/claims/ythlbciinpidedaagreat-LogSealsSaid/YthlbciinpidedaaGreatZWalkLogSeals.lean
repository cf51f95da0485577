/- The walk of LogSeals. -/
import Derived.Test.YthlbciinpidedaaGreatZK23
import Derived.Test.YthlbciinpidedaaGreatZSealPure
import Derived.Test.YthlbciinpidedaaGreatZFree8
namespace Go.Proofs.YthlbciinpidedaaGreat
set_option linter.unusedSimpArgs false
set_option linter.unusedVariables false
set_option maxRecDepth 100000
open Go.RowKit
attribute [local go_sem high] run_mx run_mn
attribute [local go_sem] run_store_flt
set_option maxHeartbeats 16000000 in
theorem walkLogSeals (W : World) (c : Cnf) (hc : c.Wf) (A : Option Addr) (nL cL : Nat) (xs : List Int) (hL : IsInts .u8 1 W A nL cL xs) :
    Calls Tryz.prog 5 #[.agg c.cells, .slice A nL cL] W fun e w' => e = .returned (.bool true) ∧ Below W.heap.size W w' := by
  have hfx := fixed_any
  have hsm := fun v => Small_any c hc.share v
  have hsh : c.small.share < 18446744073709551616 := by rw [c.small_share]; exact hc.share
  have hmy := fun v => May_any c.small hsh v
  rw [c.small_may] at hmy
  have hS0 := Now.pushCells (Sep.start W) 24 c.cells
  have hcb := Now.blk (pre := []) hS0
  have fc := fun k => hcb.frozen k
  have c0 : _ = some (Value.int .i64 c.segs) := hcb.cell 0
  have c1 : _ = some (Value.int .i64 c.slots) := hcb.cell 1
  have c2 : _ = some (Value.float .f64 c.share) := hcb.cell 2
  have c3 : _ = some (Value.int .i64 c.rate) := hcb.cell 3
  clear hcb
  cases hm : c.may with
  | false =>
    rw [hm] at hmy
    go_enter Tryz.func5, Tryz.ntmps5
    go_wp2_with (first
      | (go_at_call 10; (with_reducible refine (hsm _).mono ?_); rintro e w1 ⟨rfl, hB⟩; have hS1 := Now.below hS0 hB; have hcb := Now.blk (pre := []) hS1; replace c0 : w1.cell? ⟨W.heap.size, 0, none⟩ = some (Value.int .i64 c.segs) := hcb.cell 0; replace c1 : w1.cell? ⟨W.heap.size, 1, none⟩ = some (Value.int .i64 c.slots) := hcb.cell 1; replace c2 : w1.cell? ⟨W.heap.size, 2, none⟩ = some (Value.float .f64 c.share) := hcb.cell 2; replace c3 : w1.cell? ⟨W.heap.size, 3, none⟩ = some (Value.int .i64 c.rate) := hcb.cell 3; replace fc := fun k => hcb.frozen k; have hS2 := Lib.hid (Now.set_ (pre := []) (Now.set_ (pre := []) (Now.set_ (pre := []) (Now.set_ (pre := []) hS1 0 (.int .i64 c.small.segs)) 1 (.int .i64 c.small.slots)) 2 (.float .f64 c.small.share)) 3 (.int .i64 c.small.rate)); clear hcb hsm hS0 hB hS1)
      | (go_at_call 11; (with_reducible refine (hmy _).mono ?_); rintro e w2 ⟨rfl, hB⟩; have hS3 := Now.below hS2.out hB; clear hmy hB hS2 c0 c1 c2 c3 fc)
      | (go_at_call 12; (with_reducible refine (hfx _).mono ?_); rintro e w3 ⟨rfl, hB⟩; have hS4 := Now.below hS3 hB; clear hB hS3))
    go_ret
    exact ⟨rfl, Sep.base hS4⟩
  | true =>
    rw [hm] at hmy
    have hzm : c.small.may = true := by rw [c.small_may]; exact hm
    obtain ⟨hg, hl⟩ := Cnf.small_in hm
    have hmade := fun v => made_ok c.small.sectors c.small hsh hzm (Int.le_refl _) (by have := sec_bound c.small.segs c.small.slots (by omega) (by omega); rw [Cnf.sectors_eq hzm]; omega) v
    have hsec := fun v => RSectors_any c.small hsh v
    have hd0 := srun_start hzm (by have := sec_bound c.small.segs c.small.slots (by omega) (by omega); rw [Cnf.sectors_eq hzm]; omega)
    go_enter Tryz.func5, Tryz.ntmps5
    go_wp2_with (first
      | (go_at_call 10; (with_reducible refine (hsm _).mono ?_); rintro e w1 ⟨rfl, hB⟩; have hS1 := Now.below hS0 hB; have hcb := Now.blk (pre := []) hS1; replace c0 : w1.cell? ⟨W.heap.size, 0, none⟩ = some (Value.int .i64 c.segs) := hcb.cell 0; replace c1 : w1.cell? ⟨W.heap.size, 1, none⟩ = some (Value.int .i64 c.slots) := hcb.cell 1; replace c2 : w1.cell? ⟨W.heap.size, 2, none⟩ = some (Value.float .f64 c.share) := hcb.cell 2; replace c3 : w1.cell? ⟨W.heap.size, 3, none⟩ = some (Value.int .i64 c.rate) := hcb.cell 3; replace fc := fun k => hcb.frozen k; have hS2 := Lib.hid (Now.set_ (pre := []) (Now.set_ (pre := []) (Now.set_ (pre := []) (Now.set_ (pre := []) hS1 0 (.int .i64 c.small.segs)) 1 (.int .i64 c.small.slots)) 2 (.float .f64 c.small.share)) 3 (.int .i64 c.small.rate)); clear hcb hsm hS0 hB hS1)
      | (go_at_call 11; (with_reducible refine (hmy _).mono ?_); rintro e w2 ⟨rfl, hB⟩; have hS3 := Now.below hS2.out hB; clear hmy hB hS2 c0 c1 c2 c3 fc))
    generalize c.small = z at *
    have hcb := Now.blk (pre := []) hS3
    have hcell : ∀ v, Newer w2.drew v → v.cell? ⟨W.heap.size, 0, none⟩ = some (Value.int .i64 z.segs) ∧ v.cell? ⟨W.heap.size, 1, none⟩ = some (Value.int .i64 z.slots) ∧ v.cell? ⟨W.heap.size, 2, none⟩ = some (Value.float .f64 z.share) ∧ v.cell? ⟨W.heap.size, 3, none⟩ = some (Value.int .i64 z.rate) := fun v hv => by
      have h1 := hcb.below hv.undrew hcb.lt
      exact ⟨h1.cell 0, h1.cell 1, h1.cell 2, h1.cell 3⟩
    have hS4 := hS3.drew
    clear hS3 hcb
    refine wp_region_ord Newer.grow [(0, true), (1, true), (2, true), (3, false), (4, true), (5, true), (6, true), (7, true), (8, true), (9, true), (10, true)] [] (by kernel_rfl) (by kernel_rfl) rfl (by kernel_rfl) (by intro _ _ d _ _ h; cases d <;> exact h) ?_
    iterate 3
      (apply wpOrd_take
       · exact rfl
       · intro w1 h1
         (obtain ⟨c0, c1, c2, c3⟩ := hcell w1 h1)
         go_simp
         first
           | with_reducible exact ⟨rfl, Newer.grow.refl _⟩
           | with_reducible exact hsec _
       simp only [Act.put, List.setIfInBounds_toArray, List.set_cons_zero, List.set_cons_succ])
    refine wpOrd_do rfl ?_
    intro w4 h4 K hK
    have hS5 := Now.below hS4 h4
    go_simp
    go_at_call 13
    refine (hmade _).mono ?_
    rintro e w5 ⟨g, gd, rfl, A1, k1, A2, k2, A3, k3, hO⟩
    refine hK _ _ (Sep.base hO) ?_
    have hS6 := Now.pushAll hS5 hO
    clear hK K hcell hS4 hS5 hO h4 hmade hsec
    try simp only [Act.put, List.setIfInBounds_toArray, List.set_cons_zero, List.set_cons_succ]
    iterate 7
      (apply wpOrd_take
       · exact rfl
       · intro w1 h1
         (skip)
         go_simp
         first
           | with_reducible exact ⟨rfl, Newer.grow.refl _⟩
       simp only [Act.put, List.setIfInBounds_toArray, List.set_cons_zero, List.set_cons_succ])
    refine wpOrd_done fun w6 h6 => ?_
    have hS7 := Now.below hS6 h6
    clear hS6 h6
    have hS : Now (fun _ => False) W w6 ((startS z).parts g gd 1 A1 k1 A2 k2 A3 k3 ++ [Thing.cells W.heap.size 24 z.cells]) := hS7
    have HD := Lib.hid hd0
    have HL := Lib.hid hL
    have hnL : nL ≤ 1000000000000000 := by have := hL.size; omega
    clear hd0 hS7 hL
    generalize startS z = s0 at hS HD
    have hlv : ∀ (id : ByteArray) (ver : Int) (v : World), Calls Tryz.prog 18 #[.string id, .int .u64 ver] v fun e w' => e = .returned (.agg #[.int .u64 0, .int .u32 0, .int .i64 1, .int .u64 ver, .int .u64 9, .string id, .string ⟨#[118]⟩]) ∧ Newer v w' := live_any
    go_wp2_with fail
    go_loopw [8] (fun vs wr => ∃ (σ q r m : Nat) (s : LSt) (A1 : Option Addr) (k1 : Nat) (A2 : Option Addr) (k2 : Nat) (A3 : Option Addr) (k3 : Nat), vs = .int .i64 σ ∧ (σ : Int) ≤ z.segs ∧ ((σ : Int) < z.segs → q = σ ∧ r = 0) ∧ ((σ : Int) = z.segs → ((q + 1 : Nat) : Int) = z.segs) ∧ m ≤ 6 * σ ∧ Hid (SRun z q r m s) ∧ Hid (Now (fun _ => False) W wr (s.parts g gd 1 A1 k1 A2 k2 A3 k3 ++ [Thing.cells W.heap.size 24 z.cells]))) (fun vs _ => 31 - (intOf vs).toNat)
    case atStart => exact ⟨0, 0, 0, 0, s0, A1, k1, A2, k2, A3, k3, rfl, by omega, fun _ => ⟨rfl, rfl⟩, fun h => absurd h (by omega), by omega, HD, Lib.hid hS⟩
    case round =>
      clear hS HD
      obtain ⟨σ, q, r, m, s, A1, k1, A2, k2, A3, k3, rfl, hσ, hq1, hq2, hmm, hD, hS⟩ := hrel
      replace hS := hS.out
      have hcb := Now.blk (pre := [_, _, _, _, _]) hS
      have c0 : wr.cell? ⟨W.heap.size, 0, none⟩ = some (Value.int .i64 z.segs) := hcb.cell 0
      have c1 : wr.cell? ⟨W.heap.size, 1, none⟩ = some (Value.int .i64 z.slots) := hcb.cell 1
      by_cases hlt : (σ : Int) < z.segs
      · obtain ⟨e1, e2⟩ := hq1 hlt
        subst e2
        have e3 : σ = q := e1.symm
        subst e3
        clear hq1 hq2
        have hq6 : σ ≤ 5 := by omega
        have hz0 : ¬ z.slots = 0 := by omega
        by_cases hnl : σ < nL
        · have hnl' : (σ : Int) < (nL : Int) := by omega
          have hxl : xs[σ]? = some xs[σ]! := by rw [List.getElem!_eq_getElem?_getD, List.getElem?_eq_getElem (by rw [HL.out.len]; exact hnl)]; rfl
          obtain ⟨x, hx⟩ : ∃ x, xs[σ]? = some x := ⟨_, hxl⟩
          clear hxl
          obtain ⟨hx1, hx2⟩ := bounds_u8 (HL.out.wf x (List.mem_of_getElem? hx))
          obtain ⟨ad, hA, had, ca⟩ := read_cell (u := .int .u8 x) HL.out.reads hnl (by rw [List.getElem?_map, hx]; rfl)
          subst hA
          have htm : x.tmod z.slots = x % z.slots := Int.tmod_eq_emod_of_nonneg hx1
          have hrb : 0 ≤ x % z.slots ∧ x % z.slots < z.slots := ⟨Int.emod_nonneg _ hz0, Int.emod_lt_of_pos _ (by omega)⟩
          obtain ⟨ρ, hρ⟩ : ∃ ρ, x % z.slots = ρ := ⟨_, rfl⟩
          rw [hρ] at htm hrb
          obtain ⟨ν, hν⟩ : ∃ ν : Nat, 1 + ρ = (ν : Int) := ⟨(1 + ρ).toNat, by omega⟩
          have hwν : wrap64 (1 + ρ) = (ν : Int) := by rw [IntWalk.wrap64_in _ (by omega), hν]
          have hiν : IntKind.i64.wrap (1 + ρ) = (ν : Int) := by rw [IntWalk.i64_in _ (by omega), hν]
          have hix : IntKind.i64.wrap x = x := IntWalk.i64_in _ (by omega)
          have hbase := Sep.base hS
          have hcell : ∀ v, Newer wr.drew v → v.cell? (ad.add σ) = some (.int .u8 x) ∧ v.cell? ⟨W.heap.size, 1, none⟩ = some (.int .i64 z.slots) := fun v hv =>
            ⟨((hbase.trans (hv.undrew.mono hbase.size)).cell (p := ad.add σ) (by rw [block_of_add]; exact had)).trans ca, (hcb.below hv.undrew hcb.lt).cell 1⟩
          have hν2 : 1 ≤ ν ∧ (ν : Int) ≤ z.slots := by omega
          clear hx hρ hν
          go_wp2_with fail
          clear c0 c1 hcb
          refine wp_region_ord Newer.grow [(0, true), (1, true), (2, true), (3, true), (4, true), (5, true), (6, true), (7, true), (8, true), (9, true)] [] (by kernel_rfl) (by kernel_rfl) rfl (by kernel_rfl) (by intro _ _ d _ _ h; cases d <;> exact h) ?_
          iterate 10
            (apply wpOrd_take
             · exact rfl
             · intro w1 h1
               (obtain ⟨b0, b1⟩ := hcell w1 h1)
               go_simp
               first
                 | with_reducible exact ⟨rfl, Newer.grow.refl _⟩
             simp only [Act.put, List.setIfInBounds_toArray, List.set_cons_zero, List.set_cons_succ])
          refine wpOrd_done fun w20 h20 => ?_
          replace hS := Now.below hS.drew h20
          clear hcell h20 ca had hbase
          go_wp2_with fail
          go_loopw [10] (fun vi wr => ∃ (i m2 : Nat) (s2 : LSt) (A1 : Option Addr) (k1 : Nat) (A2 : Option Addr) (k2 : Nat) (A3 : Option Addr) (k3 : Nat), vi = .int .i64 i ∧ i ≤ ν ∧ m2 ≤ m + i ∧ Hid (SRun z σ i m2 s2) ∧ Hid (Now (fun _ => False) W wr (s2.parts g gd 1 A1 k1 A2 k2 A3 k3 ++ [Thing.cells W.heap.size 24 z.cells]))) (fun vi _ => 31 - (intOf vi).toNat)
          case atStart => exact ⟨0, m, s, A1, k1, A2, k2, A3, k3, rfl, by omega, by omega, hD, Lib.hid hS⟩
          case round =>
            clear hS hD
            obtain ⟨i, m2, s2, A1, k1, A2, k2, A3, k3, rfl, hi, hm2, hD, hS⟩ := hrel
            replace hS := hS.out
            have hok := hD.out.f.run.ok (by omega)
            have hsok := hD.out.f.run.sealOk (by omega) 1
            have hcb := Now.blk (pre := [_, _, _, _, _]) hS
            have c0 : wr.cell? ⟨W.heap.size, 0, none⟩ = some (Value.int .i64 z.segs) := hcb.cell 0
            clear hcb
            by_cases hlt2 : i < ν
            · have hii : (i : Int) < (ν : Int) := by omega
              have hpu := puts_live bA (by decide) ((σ : Int) * 100 + i) (by omega)
              have hF := (hpu.recOf hok).2
              have hwu : IntKind.u64.wrap ((σ : Int) * 100 + i) = (σ : Int) * 100 + i := IntWalk.u64_in _ (by omega)
              obtain ⟨s4, ha, hD4⟩ := hD.out.put (by omega) (by omega) (by omega)
              have hap : ∀ v, Now (fun _ => False) W v (s2.parts g gd 1 A1 k1 A2 k2 A3 k3 ++ [Thing.cells W.heap.size 24 z.cells]) → Calls Tryz.prog 16 #[.pointer (some ⟨g, 0, none⟩), .agg #[.int .u64 0, .int .u32 0, .int .i64 1, .int .u64 ((σ : Int) * 100 + i), .int .u64 9, .string ⟨#[97]⟩, .string ⟨#[118]⟩]] v fun e w' => e = .returned (.tuple #[.agg #[.int .i64 (σ : Int), .int .i64 (i : Int)], .int .i64 0]) ∧ GotLog (fun _ => False) W w' s4 g gd 1 [Thing.cells W.heap.size 24 z.cells] := fun v h => by
                have h1 := Append_any s2 hok hsok g gd (by decide) (liveR bA ((σ : Int) * 100 + i)) hF A1 k1 A2 k2 A3 k3 h
                rw [ha] at h1
                exact h1
              clear ha hF hok hsok hpu
              go_wp2_with (first
                | (go_at_call 18; (with_reducible refine (hlv _ _ _).mono ?_); rintro e wl ⟨rfl, hB⟩; replace hS := Now.below hS hB; clear hB)
                | (go_at_call 16; have hap' := hap _ hS; clear hap hS c0; refine hap'.mono ?_; clear hap'; rintro e w10 ⟨rfl, B1, j1, B2, j2, B3, j3, hS10⟩; have hS11 := Lib.hid (Now.alloc hS10 (.cells #[.int .i64 (σ : Int), .int .i64 (i : Int)] 36)); clear hS10))
              go_roundw
              case rel => exact ⟨i + 1, m2 + 1, s4, B1, j1, B2, j2, B3, j3, by go_num, by omega, by omega, Lib.hid hD4, hS11⟩
              case measure => simp [intOf] <;> omega
            · have hiv : i = ν := by omega
              have hii : ¬ (i : Int) < (ν : Int) := by omega
              have hsx := fun v (h : Now (fun _ => False) W v (s2.parts g gd 1 A1 k1 A2 k2 A3 k3 ++ [Thing.cells W.heap.size 24 z.cells])) => Seal_any s2 hok g gd 1 (by decide) A1 k1 A2 k2 A3 k3 h
              by_cases hmore : ((σ + 1 : Nat) : Int) < z.segs
              · obtain ⟨s4, ha, hD4⟩ := hD.out.seal (by omega) hmore
                simp only [ha] at hsx
                have hmi : (σ : Int) + 1 < z.segs := by omega
                clear ha hok hsok
                go_wp2_with (go_at_call 19; have hap' := hsx _ hS; clear hsx hS c0; refine hap'.mono ?_; clear hap'; rintro e w11 ⟨rfl, B1, j1, B2, j2, B3, j3, hS⟩; have hcb := Now.blk (pre := [_, _, _, _, _]) hS; have c0 : w11.cell? ⟨W.heap.size, 0, none⟩ = some (Value.int .i64 z.segs) := hcb.cell 0; clear hcb)
                go_roundw
                case rel => exact ⟨σ + 1, σ + 1, 0, m2 + 1, s4, B1, j1, B2, j2, B3, j3, by go_num, by omega, fun _ => ⟨rfl, rfl⟩, fun h => absurd h (by omega), by omega, Lib.hid hD4, Lib.hid hS⟩
                case measure => simp [intOf] <;> omega
              · have hend : ((σ + 1 : Nat) : Int) = z.segs := by omega
                have ha := hD.out.sealEnd hend
                simp only [ha] at hsx
                have hmi : ¬ (σ : Int) + 1 < z.segs := by omega
                have hme : (σ : Int) + 1 = z.segs := by omega
                clear ha hok hsok
                go_wp2_with (go_at_call 19; have hap' := hsx _ hS; clear hsx hS c0; refine hap'.mono ?_; clear hap'; rintro e w11 ⟨rfl, B1, j1, B2, j2, B3, j3, hS⟩; have hcb := Now.blk (pre := [_, _, _, _, _]) hS; have c0 : w11.cell? ⟨W.heap.size, 0, none⟩ = some (Value.int .i64 z.segs) := hcb.cell 0; clear hcb)
                go_roundw
                case rel => exact ⟨σ + 1, σ, i, m2, s2, B1, j1, B2, j2, B3, j3, by go_num, by omega, fun h => absurd h (by omega), fun _ => hend, by omega, hD, Lib.hid hS⟩
                case measure => simp [intOf] <;> omega
        · have hnl' : ¬ (σ : Int) < (nL : Int) := by omega
          obtain ⟨ν, hν⟩ : ∃ ν : Nat, ν = 1 := ⟨1, rfl⟩
          have hν2 : 1 ≤ ν ∧ (ν : Int) ≤ z.slots := by omega
          go_wp2_with fail
          clear c0 c1 hcb
          go_loopw [10] (fun vi wr => ∃ (i m2 : Nat) (s2 : LSt) (A1 : Option Addr) (k1 : Nat) (A2 : Option Addr) (k2 : Nat) (A3 : Option Addr) (k3 : Nat), vi = .int .i64 i ∧ i ≤ ν ∧ m2 ≤ m + i ∧ Hid (SRun z σ i m2 s2) ∧ Hid (Now (fun _ => False) W wr (s2.parts g gd 1 A1 k1 A2 k2 A3 k3 ++ [Thing.cells W.heap.size 24 z.cells]))) (fun vi _ => 31 - (intOf vi).toNat)
          case atStart => exact ⟨0, m, s, A1, k1, A2, k2, A3, k3, rfl, by omega, by omega, hD, Lib.hid hS⟩
          case round =>
            clear hS hD
            obtain ⟨i, m2, s2, A1, k1, A2, k2, A3, k3, rfl, hi, hm2, hD, hS⟩ := hrel
            replace hS := hS.out
            have hok := hD.out.f.run.ok (by omega)
            have hsok := hD.out.f.run.sealOk (by omega) 1
            have hcb := Now.blk (pre := [_, _, _, _, _]) hS
            have c0 : wr.cell? ⟨W.heap.size, 0, none⟩ = some (Value.int .i64 z.segs) := hcb.cell 0
            clear hcb
            by_cases hlt2 : i < ν
            · have hii : (i : Int) < 1 := by omega
              have hpu := puts_live bA (by decide) ((σ : Int) * 100 + i) (by omega)
              have hF := (hpu.recOf hok).2
              have hwu : IntKind.u64.wrap ((σ : Int) * 100 + i) = (σ : Int) * 100 + i := IntWalk.u64_in _ (by omega)
              obtain ⟨s4, ha, hD4⟩ := hD.out.put (by omega) (by omega) (by omega)
              have hap : ∀ v, Now (fun _ => False) W v (s2.parts g gd 1 A1 k1 A2 k2 A3 k3 ++ [Thing.cells W.heap.size 24 z.cells]) → Calls Tryz.prog 16 #[.pointer (some ⟨g, 0, none⟩), .agg #[.int .u64 0, .int .u32 0, .int .i64 1, .int .u64 ((σ : Int) * 100 + i), .int .u64 9, .string ⟨#[97]⟩, .string ⟨#[118]⟩]] v fun e w' => e = .returned (.tuple #[.agg #[.int .i64 (σ : Int), .int .i64 (i : Int)], .int .i64 0]) ∧ GotLog (fun _ => False) W w' s4 g gd 1 [Thing.cells W.heap.size 24 z.cells] := fun v h => by
                have h1 := Append_any s2 hok hsok g gd (by decide) (liveR bA ((σ : Int) * 100 + i)) hF A1 k1 A2 k2 A3 k3 h
                rw [ha] at h1
                exact h1
              clear ha hF hok hsok hpu
              go_wp2_with (first
                | (go_at_call 18; (with_reducible refine (hlv _ _ _).mono ?_); rintro e wl ⟨rfl, hB⟩; replace hS := Now.below hS hB; clear hB)
                | (go_at_call 16; have hap' := hap _ hS; clear hap hS c0; refine hap'.mono ?_; clear hap'; rintro e w10 ⟨rfl, B1, j1, B2, j2, B3, j3, hS10⟩; have hS11 := Lib.hid (Now.alloc hS10 (.cells #[.int .i64 (σ : Int), .int .i64 (i : Int)] 36)); clear hS10))
              go_roundw
              case rel => exact ⟨i + 1, m2 + 1, s4, B1, j1, B2, j2, B3, j3, by go_num, by omega, by omega, Lib.hid hD4, hS11⟩
              case measure => simp [intOf] <;> omega
            · have hiv : i = ν := by omega
              have hii : ¬ (i : Int) < 1 := by omega
              have hsx := fun v (h : Now (fun _ => False) W v (s2.parts g gd 1 A1 k1 A2 k2 A3 k3 ++ [Thing.cells W.heap.size 24 z.cells])) => Seal_any s2 hok g gd 1 (by decide) A1 k1 A2 k2 A3 k3 h
              by_cases hmore : ((σ + 1 : Nat) : Int) < z.segs
              · obtain ⟨s4, ha, hD4⟩ := hD.out.seal (by omega) hmore
                simp only [ha] at hsx
                have hmi : (σ : Int) + 1 < z.segs := by omega
                clear ha hok hsok
                go_wp2_with (go_at_call 19; have hap' := hsx _ hS; clear hsx hS c0; refine hap'.mono ?_; clear hap'; rintro e w11 ⟨rfl, B1, j1, B2, j2, B3, j3, hS⟩; have hcb := Now.blk (pre := [_, _, _, _, _]) hS; have c0 : w11.cell? ⟨W.heap.size, 0, none⟩ = some (Value.int .i64 z.segs) := hcb.cell 0; clear hcb)
                go_roundw
                case rel => exact ⟨σ + 1, σ + 1, 0, m2 + 1, s4, B1, j1, B2, j2, B3, j3, by go_num, by omega, fun _ => ⟨rfl, rfl⟩, fun h => absurd h (by omega), by omega, Lib.hid hD4, Lib.hid hS⟩
                case measure => simp [intOf] <;> omega
              · have hend : ((σ + 1 : Nat) : Int) = z.segs := by omega
                have ha := hD.out.sealEnd hend
                simp only [ha] at hsx
                have hmi : ¬ (σ : Int) + 1 < z.segs := by omega
                have hme : (σ : Int) + 1 = z.segs := by omega
                clear ha hok hsok
                go_wp2_with (go_at_call 19; have hap' := hsx _ hS; clear hsx hS c0; refine hap'.mono ?_; clear hap'; rintro e w11 ⟨rfl, B1, j1, B2, j2, B3, j3, hS⟩; have hcb := Now.blk (pre := [_, _, _, _, _]) hS; have c0 : w11.cell? ⟨W.heap.size, 0, none⟩ = some (Value.int .i64 z.segs) := hcb.cell 0; clear hcb)
                go_roundw
                case rel => exact ⟨σ + 1, σ, i, m2, s2, B1, j1, B2, j2, B3, j3, by go_num, by omega, fun h => absurd h (by omega), fun _ => hend, by omega, hD, Lib.hid hS⟩
                case measure => simp [intOf] <;> omega
      · have hend : ((q + 1 : Nat) : Int) = z.segs := hq2 (by omega)
        have hm36 : m ≤ 40 := by omega
        have hok := hD.out.f.run.ok (by omega)
        have hpos := hok.t.pos
        have hln := hok.t.len
        have hfs := hok.t.fst
        obtain ⟨y1, hy1⟩ : ∃ y, s.T.order[0]? = some y := ⟨_, List.getElem?_eq_getElem (by omega)⟩
        obtain ⟨y2, hy2⟩ : ∃ y, s.T.lens[0]? = some y := ⟨_, List.getElem?_eq_getElem (by omega)⟩
        obtain ⟨y3, hy3⟩ : ∃ y, s.T.firsts[0]? = some y := ⟨_, List.getElem?_eq_getElem (by omega)⟩
        obtain ⟨t1, rfl, _, _⟩ := read_cell (k := 0) (u := .int .i64 y1) (Reads.of_own (Now.row (pre := [_]) hS)) (by omega) (by rw [List.getElem?_map, hy1]; rfl)
        obtain ⟨t2, rfl, _, _⟩ := read_cell (k := 0) (u := .int .i64 y2) (Reads.of_own (Now.row (pre := [_, _]) hS)) (by omega) (by rw [List.getElem?_map, hy2]; rfl)
        obtain ⟨t3, rfl, _, _⟩ := read_cell (k := 0) (u := .int .u64 y3) (Reads.of_own (Now.row (pre := [_, _, _]) hS)) (by omega) (by rw [List.getElem?_map, hy3]; rfl)
        have htb := fun v (h : Now (fun _ => False) W v (s.parts g gd 1 (some t1) k1 (some t2) k2 (some t3) k3 ++ [Thing.cells W.heap.size 24 z.cells])) => Table_any g gd s.T hok.t t1 k1 t2 k2 t3 k3 s.lsn 1 s.gen v (Now.blk (pre := []) h) (tabIn_of (pre := [_]) h)
        have hrd : ∀ (τ i : Nat), τ ≤ q → (i : Int) < s.T.len (τ : Int) → ∃ lsn : Int, ∀ v, Now (fun _ => False) W v (s.parts g gd 1 (some t1) k1 (some t2) k2 (some t3) k3 ++ [Thing.cells W.heap.size 24 z.cells]) → Calls Tryz.prog 24 #[.pointer (some ⟨g, 0, none⟩), .agg #[.int .i64 (τ : Int), .int .i64 (i : Int)]] v fun e w' => e = .returned (.tuple #[.agg #[.int .u64 lsn, .int .u32 1, .int .i64 1, .int .u64 ((τ : Int) * 100 + i), .int .u64 9, .string ⟨#[97]⟩, .string ⟨#[118]⟩], .int .i64 0]) ∧ Now (fun _ => False) W w' (s.parts g gd 1 (some t1) k1 (some t2) k2 (some t3) k3 ++ [Thing.cells W.heap.size 24 z.cells]) := fun τ i hτ hi => by
          obtain ⟨lsn, hr⟩ := hD.out.read hτ hi
          refine ⟨lsn, fun v h => ?_⟩
          have h1 := Read_any s hok g gd 1 (τ : Int) (i : Int) (some t1) k1 (some t2) k2 (some t3) k3 h
          rw [hr] at h1
          exact h1
        have hle := fun C1 m1 C2 m2 C3 m3 x v (h : TabIn v v.heap.size s.T C1 C2 C3) => Len_tab s.T hok.t C1 m1 C2 m2 C3 m3 x v v.heap.size (Nat.le_refl _) h
        have hfr := fun C1 m1 C2 m2 C3 m3 v (h : TabIn v v.heap.size s.T C1 C2 C3) => Free_none s.T hok.t (hD.out.f.run.free_end hend) C1 m1 C2 m2 C3 m3 v h
        have hrf := fun C1 m1 C2 m2 C3 m3 v => LRef_any s.T C1 m1 C2 m2 C3 m3 v
        clear hy1 hy2 hy3 hpos hln hfs hok hcb hq1 hq2 hD
        go_wp2_with fail
        clear c0 c1
        go_loopw [14] (fun vs wr => ∃ τ : Nat, vs = .int .i64 τ ∧ (τ : Int) ≤ z.segs ∧ Hid (Now (fun _ => False) W wr (s.parts g gd 1 (some t1) k1 (some t2) k2 (some t3) k3 ++ [Thing.cells W.heap.size 24 z.cells]))) (fun vs _ => 31 - (intOf vs).toNat)
        case atStart => exact ⟨0, rfl, by omega, Lib.hid hS⟩
        case round =>
          clear hS
          obtain ⟨τ, rfl, hτ, hS⟩ := hrel
          replace hS := hS.out
          have hcb := Now.blk (pre := [_, _, _, _, _]) hS
          have c0 : wr.cell? ⟨W.heap.size, 0, none⟩ = some (Value.int .i64 z.segs) := hcb.cell 0
          clear hcb
          by_cases hlt3 : (τ : Int) < z.segs
          · go_wp2_with fail
            clear c0
            go_loopw [15] (fun vi wr => ∃ i : Nat, vi = .int .i64 i ∧ i ≤ 5 ∧ Hid (Now (fun _ => False) W wr (s.parts g gd 1 (some t1) k1 (some t2) k2 (some t3) k3 ++ [Thing.cells W.heap.size 24 z.cells]))) (fun vi _ => 31 - (intOf vi).toNat)
            case atStart => exact ⟨0, rfl, by omega, Lib.hid hS⟩
            case round =>
              clear hS
              obtain ⟨i, rfl, hi5, hS⟩ := hrel
              replace hS := hS.out
              by_cases b1 : (i : Int) < s.T.len (τ : Int)
              · by_cases b2 : (i : Int) < 5
                · obtain ⟨lsn, hr⟩ := hrd τ i (by omega) b1
                  have hwu : IntKind.u64.wrap ((τ : Int) * 100 + i) = (τ : Int) * 100 + i := IntWalk.u64_in _ (by omega)
                  go_wp2_with (first
                    | (go_at_call 23; refine (htb _ hS).mono ?_; rintro e w2 ⟨C1, m1, C2, m2, C3, m3, rfl, hO⟩; have hS2 := Now.pushAll hS hO; clear hS hO htb)
                    | (go_at_call 22; (with_reducible refine (hle C1 m1 C2 m2 C3 m3 (τ : Int) _ (tabIn_of (pre := []) hS2)).mono ?_); rintro e w3 ⟨rfl, hB⟩; have hS3 := Now.drop (pre := []) (Now.drop (pre := []) (Now.drop (pre := []) (Now.below hS2 hB))); clear hS2 hB hle)
                    | (go_at_call 24; have hr' := hr _ hS3; clear hr hS3; refine hr'.mono ?_; clear hr'; rintro e w4 ⟨rfl, hS4⟩; have hS5 := Lib.hid (Now.alloc hS4 (.cells #[.int .u64 lsn, .int .u32 1, .int .i64 1, .int .u64 ((τ : Int) * 100 + i), .int .u64 9, .string ⟨#[97]⟩, .string ⟨#[118]⟩] 42)); clear hS4))
                  go_roundw
                  case rel => exact ⟨i + 1, by go_num, by omega, hS5⟩
                  case measure => simp [intOf] <;> omega
                · go_wp2_with (first
                    | (go_at_call 23; refine (htb _ hS).mono ?_; rintro e w2 ⟨C1, m1, C2, m2, C3, m3, rfl, hO⟩; have hS2 := Now.pushAll hS hO; clear hS hO htb)
                    | (go_at_call 22; (with_reducible refine (hle C1 m1 C2 m2 C3 m3 (τ : Int) _ (tabIn_of (pre := []) hS2)).mono ?_); rintro e w3 ⟨rfl, hB⟩; have hS3 := Now.drop (pre := []) (Now.drop (pre := []) (Now.drop (pre := []) (Now.below hS2 hB))); clear hS2 hB hle))
                  go_roundw
                  case rel => exact ⟨τ + 1, by go_num, by omega, Lib.hid hS3⟩
                  case measure => simp [intOf] <;> omega
              · go_wp2_with (first
                  | (go_at_call 23; refine (htb _ hS).mono ?_; rintro e w2 ⟨C1, m1, C2, m2, C3, m3, rfl, hO⟩; have hS2 := Now.pushAll hS hO; clear hS hO htb)
                  | (go_at_call 22; (with_reducible refine (hle C1 m1 C2 m2 C3 m3 (τ : Int) _ (tabIn_of (pre := []) hS2)).mono ?_); rintro e w3 ⟨rfl, hB⟩; have hS3 := Now.drop (pre := []) (Now.drop (pre := []) (Now.drop (pre := []) (Now.below hS2 hB))); clear hS2 hB hle))
                go_roundw
                case rel => exact ⟨τ + 1, by go_num, by omega, Lib.hid hS3⟩
                case measure => simp [intOf] <;> omega
          · go_wp2_with (first
              | (go_at_call 23; refine (htb _ hS).mono ?_; rintro e w2 ⟨C1, m1, C2, m2, C3, m3, rfl, hO⟩; have hS2 := Now.pushAll hS hO; clear hS hO htb c0)
              | (go_at_call 26; (with_reducible refine (hrf C1 m1 C2 m2 C3 m3 _).mono ?_); rintro e w3 ⟨rfl, hB⟩; have hS3 := Now.below hS2 hB; clear hS2 hB hrf)
              | (go_at_call 25; (with_reducible refine (hfr C1 m1 C2 m2 C3 m3 _ (tabIn_of (pre := []) hS3)).mono ?_); rintro e w4 ⟨⟨B1, j1, rfl⟩, hB⟩; have hS4 := Now.below hS3 hB; clear hS3 hB hfr)
              | (go_at_call 12; (with_reducible refine (hfx _).mono ?_); rintro e w5 ⟨rfl, hB⟩; have hS5 := Now.below hS4 hB; clear hB hS4))
            go_ret
            exact ⟨rfl, Sep.base hS5⟩
end Go.Proofs.YthlbciinpidedaaGreat

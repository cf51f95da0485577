/- The walk of LogFull. -/
import Derived.Test.YthlbciinpidedaaGreatZK23
import Derived.Test.YthlbciinpidedaaGreatZFullPure
namespace Go.Proofs.YthlbciinpidedaaGreat
set_option linter.unusedSimpArgs false
set_option linter.unusedVariables false
set_option maxRecDepth 100000
open Go.RowKit
attribute [local go_sem high] run_mx run_mn
attribute [local go_sem] run_store_flt
def lowOf (x : Int) (n : Nat) : Int := ((BitVec.ofInt 64 x &&& BitVec.ofInt 64 (n : Int)).toNat : Int)
theorem lowOf_le (x : Int) (n : Nat) (hn : n < 9223372036854775808) : 0 ≤ lowOf x n ∧ lowOf x n ≤ n := by
  have hle : (BitVec.ofInt 64 x &&& BitVec.ofInt 64 (n : Int)).toNat ≤ n := by
    rw [BitVec.toNat_and]
    refine Nat.le_trans Nat.and_le_right ?_
    rw [BitVec.toNat_ofInt]
    omega
  unfold lowOf
  omega
theorem bits_low (x : Int) (n : Nat) (hn : n < 9223372036854775808) : bits .and .i64 x n = lowOf x n :=
  show IntKind.i64.wrap (lowOf x n) = lowOf x n from IntWalk.i64_in _ (by have := lowOf_le x n hn; omega)
theorem Now.step {S0 : Nat → Prop} {w0 w : World} {L : List Thing} (h : Now S0 w0 w L) : ∃ S, Now S w w L ∧ ∀ w' M, Now S w w' M → Now S0 w0 w' M := by
  obtain ⟨S, h1, h2, h3⟩ := h
  refine ⟨S, Now.start h1, fun w' M hN => ?_⟩
  obtain ⟨T, hT, hF, hn⟩ := hN
  refine ⟨T, hT, h2.trans hF (fun k hk h1 => by
    rcases h3 k h1 with h | h
    · exact h
    · omega), fun k hk => ?_⟩
  rcases hn k hk with h | h
  · exact h3 k h
  · exact .inr (Nat.le_trans h2.size h)
set_option maxHeartbeats 8000000 in
theorem Seal_none (s : LSt) (hs : s.Ok) (hf : s.T.freeTo s.T.segs.toNat = []) (g gd : Nat) (epoch : Int) (AO : Option Addr) (cO : Nat) (AL : Option Addr) (cL : Nat) (AF : Option Addr) (cF : Nat)
    {S0 : Nat → Prop} {w0 w : World} {L : List Thing} (hS : Now S0 w0 w (s.parts g gd epoch AO cO AL cL AF cF ++ L)) :
    Calls Tryz.prog 19 #[.pointer (some ⟨g, 0, none⟩)] w fun e w' => e = .returned (.int .i64 10) ∧ Now S0 w0 w' (s.parts g gd epoch AO cO AL cL AF cF ++ L) := by
  have hS1 := Now.back (pre := s.parts g gd epoch AO cO AL cL AF cF) (Now.pushCells hS 30 #[.int .i64 0])
  have hr := roll_full g gd s.T hs.t AO cO AL cL AF cF s.lsn epoch s.gen s.d s.T.segs.toNat hs.t.segsN hf hS1
  clear hS hS1 hs
  go_enter_defers Tryz.func19, Tryz.ntmps19
  go_wp2_with (go_at_call 58; refine hr.mono ?_; rintro e w1 ⟨rfl, hS2⟩; clear hr)
  exact lcaught_end (p := 2) (pre := [_, _, _, _, _]) rfl hS2 rfl rfl (fun w' h => ⟨rfl, Now.drop (pre := [_, _, _, _, _]) h⟩)
set_option maxHeartbeats 16000000 in
theorem walkLogFull (W : World) (c : Cnf) (hc : c.Wf) (sg : Int) (hsg : (Lit.int .i64 sg).wf = true) :
    Calls Tryz.prog 4 #[.agg c.cells, .int .i64 sg] W fun e w' => e = .returned (.bool true) ∧ Below W.heap.size W w' := by
  have hfx := fixed_any
  have hsm := fun v => Small_any c hc.share v
  have hsh : c.small.share < 18446744073709551616 := by rw [c.small_share]; exact hc.share
  have hmy := fun v => May_any c.small hsh v
  rw [c.small_may] at hmy
  have hS0 := Now.pushCells (Sep.start W) 24 c.cells
  have hcb := Now.blk (pre := []) hS0
  have fc := fun k => hcb.frozen k
  have c0 : _ = some (Value.int .i64 c.segs) := hcb.cell 0
  have c1 : _ = some (Value.int .i64 c.slots) := hcb.cell 1
  have c2 : _ = some (Value.float .f64 c.share) := hcb.cell 2
  have c3 : _ = some (Value.int .i64 c.rate) := hcb.cell 3
  clear hcb
  cases hm : c.may with
  | false =>
    rw [hm] at hmy
    go_enter Tryz.func4, Tryz.ntmps4
    go_wp2_with (first
      | (go_at_call 10; (with_reducible refine (hsm _).mono ?_); rintro e w1 ⟨rfl, hB⟩; have hS1 := Now.below hS0 hB; have hcb := Now.blk (pre := []) hS1; replace c0 : w1.cell? ⟨W.heap.size, 0, none⟩ = some (Value.int .i64 c.segs) := hcb.cell 0; replace c1 : w1.cell? ⟨W.heap.size, 1, none⟩ = some (Value.int .i64 c.slots) := hcb.cell 1; replace c2 : w1.cell? ⟨W.heap.size, 2, none⟩ = some (Value.float .f64 c.share) := hcb.cell 2; replace c3 : w1.cell? ⟨W.heap.size, 3, none⟩ = some (Value.int .i64 c.rate) := hcb.cell 3; replace fc := fun k => hcb.frozen k; have hS2 := Lib.hid (Now.set_ (pre := []) (Now.set_ (pre := []) (Now.set_ (pre := []) (Now.set_ (pre := []) hS1 0 (.int .i64 c.small.segs)) 1 (.int .i64 c.small.slots)) 2 (.float .f64 c.small.share)) 3 (.int .i64 c.small.rate)); clear hcb hsm hS0 hB hS1)
      | (go_at_call 11; (with_reducible refine (hmy _).mono ?_); rintro e w2 ⟨rfl, hB⟩; have hS3 := Now.below hS2.out hB; clear hmy hB hS2 c0 c1 c2 c3 fc)
      | (go_at_call 12; (with_reducible refine (hfx _).mono ?_); rintro e w3 ⟨rfl, hB⟩; have hS4 := Now.below hS3 hB; clear hB hS3))
    go_ret
    exact ⟨rfl, Sep.base hS4⟩
  | true =>
    rw [hm] at hmy
    have hzm : c.small.may = true := by rw [c.small_may]; exact hm
    obtain ⟨hg, hl⟩ := Cnf.small_in hm
    have hmade := fun v => made_ok c.small.sectors c.small hsh hzm (Int.le_refl _) (by have := sec_bound c.small.segs c.small.slots (by omega) (by omega); rw [Cnf.sectors_eq hzm]; omega) v
    have hsec := fun v => RSectors_any c.small hsh v
    have hd0 := frun_start hzm (by have := sec_bound c.small.segs c.small.slots (by omega) (by omega); rw [Cnf.sectors_eq hzm]; omega)
    go_enter Tryz.func4, Tryz.ntmps4
    go_wp2_with (first
      | (go_at_call 10; (with_reducible refine (hsm _).mono ?_); rintro e w1 ⟨rfl, hB⟩; have hS1 := Now.below hS0 hB; have hcb := Now.blk (pre := []) hS1; replace c0 : w1.cell? ⟨W.heap.size, 0, none⟩ = some (Value.int .i64 c.segs) := hcb.cell 0; replace c1 : w1.cell? ⟨W.heap.size, 1, none⟩ = some (Value.int .i64 c.slots) := hcb.cell 1; replace c2 : w1.cell? ⟨W.heap.size, 2, none⟩ = some (Value.float .f64 c.share) := hcb.cell 2; replace c3 : w1.cell? ⟨W.heap.size, 3, none⟩ = some (Value.int .i64 c.rate) := hcb.cell 3; replace fc := fun k => hcb.frozen k; have hS2 := Lib.hid (Now.set_ (pre := []) (Now.set_ (pre := []) (Now.set_ (pre := []) (Now.set_ (pre := []) hS1 0 (.int .i64 c.small.segs)) 1 (.int .i64 c.small.slots)) 2 (.float .f64 c.small.share)) 3 (.int .i64 c.small.rate)); clear hcb hsm hS0 hB hS1)
      | (go_at_call 11; (with_reducible refine (hmy _).mono ?_); rintro e w2 ⟨rfl, hB⟩; have hS3 := Now.below hS2.out hB; clear hmy hB hS2 c0 c1 c2 c3 fc))
    generalize c.small = z at *
    have hcb := Now.blk (pre := []) hS3
    have hcell : ∀ v, Newer w2.drew v → v.cell? ⟨W.heap.size, 0, none⟩ = some (Value.int .i64 z.segs) ∧ v.cell? ⟨W.heap.size, 1, none⟩ = some (Value.int .i64 z.slots) ∧ v.cell? ⟨W.heap.size, 2, none⟩ = some (Value.float .f64 z.share) ∧ v.cell? ⟨W.heap.size, 3, none⟩ = some (Value.int .i64 z.rate) := fun v hv => by
      have h1 := hcb.below hv.undrew hcb.lt
      exact ⟨h1.cell 0, h1.cell 1, h1.cell 2, h1.cell 3⟩
    have hS4 := hS3.drew
    clear hS3 hcb
    refine wp_region_ord Newer.grow [(0, true), (1, true), (2, true), (3, false), (4, true), (5, true), (6, true), (7, true), (8, true), (9, true), (10, true)] [] (by kernel_rfl) (by kernel_rfl) rfl (by kernel_rfl) (by intro _ _ d _ _ h; cases d <;> exact h) ?_
    iterate 3
      (apply wpOrd_take
       · exact rfl
       · intro w1 h1
         (obtain ⟨c0, c1, c2, c3⟩ := hcell w1 h1)
         go_simp
         first
           | with_reducible exact ⟨rfl, Newer.grow.refl _⟩
           | with_reducible exact hsec _
       simp only [Act.put, List.setIfInBounds_toArray, List.set_cons_zero, List.set_cons_succ])
    refine wpOrd_do rfl ?_
    intro w4 h4 K hK
    have hS5 := Now.below hS4 h4
    go_simp
    go_at_call 13
    refine (hmade _).mono ?_
    rintro e w5 ⟨g, gd, rfl, A1, k1, A2, k2, A3, k3, hO⟩
    refine hK _ _ (Sep.base hO) ?_
    have hS6 := Now.pushAll hS5 hO
    clear hK K hcell hS4 hS5 hO h4 hmade hsec
    try simp only [Act.put, List.setIfInBounds_toArray, List.set_cons_zero, List.set_cons_succ]
    iterate 7
      (apply wpOrd_take
       · exact rfl
       · intro w1 h1
         (skip)
         go_simp
         first
           | with_reducible exact ⟨rfl, Newer.grow.refl _⟩
       simp only [Act.put, List.setIfInBounds_toArray, List.set_cons_zero, List.set_cons_succ])
    refine wpOrd_done fun w6 h6 => ?_
    have hS7 := Now.below hS6 h6
    clear hS6 h6
    have hS : Now (fun _ => False) W w6 ((startS z).parts g gd 1 A1 k1 A2 k2 A3 k3 ++ [Thing.cells W.heap.size 24 z.cells]) := hS7
    have HD := Lib.hid hd0
    clear hd0 hS7
    generalize startS z = s0 at hS HD
    have hzs : z.segs * z.slots ≤ 30 ∧ 0 ≤ z.segs * z.slots := ⟨Int.le_trans (Int.mul_le_mul hg.2 hl.2 (by omega) (by omega)) (by decide), Int.mul_nonneg (by omega) (by omega)⟩
    have hwm : wrap64 (z.segs * z.slots) = z.segs * z.slots := IntWalk.wrap64_in _ (by omega)
    have hcb := Now.blk (pre := [_, _, _, _, _]) hS
    have c0 : w6.cell? ⟨W.heap.size, 0, none⟩ = some (Value.int .i64 z.segs) := hcb.cell 0
    have c1 : w6.cell? ⟨W.heap.size, 1, none⟩ = some (Value.int .i64 z.slots) := hcb.cell 1
    clear hcb
    have hlv : ∀ (id : ByteArray) (ver : Int) (v : World), Calls Tryz.prog 18 #[.string id, .int .u64 ver] v fun e w' => e = .returned (.agg #[.int .u64 0, .int .u32 0, .int .i64 1, .int .u64 ver, .int .u64 9, .string id, .string ⟨#[118]⟩]) ∧ Newer v w' := live_any
    go_wp2_with fail
    clear c0 c1
    go_loopw [9] (fun vi wr => ∃ (k q r m : Nat) (s : LSt) (A1 : Option Addr) (k1 : Nat) (A2 : Option Addr) (k2 : Nat) (A3 : Option Addr) (k3 : Nat), vi = .int .i64 k ∧ Hid ((k : Int) = q * z.slots + r) ∧ (1 ≤ r ∨ k = 0) ∧ Hid (m = k + q) ∧ k ≤ 30 ∧ Hid (FRun z q r m s) ∧ Hid (Now (fun _ => False) W wr (s.parts g gd 1 A1 k1 A2 k2 A3 k3 ++ [Thing.cells W.heap.size 24 z.cells]))) (fun vi _ => 31 - (intOf vi).toNat)
    case atStart => exact ⟨0, 0, 0, 0, s0, A1, k1, A2, k2, A3, k3, rfl, Lib.hid (by simp), .inr rfl, Lib.hid rfl, by omega, HD, Lib.hid hS⟩
    case round =>
      clear hS HD
      obtain ⟨k, q, r, m, s, A1, k1, A2, k2, A3, k3, rfl, hk, hrk, hmk, hk30, hD, hS⟩ := hrel
      replace hS := hS.out
      have hrl := hD.out.run.r_le
      have hql := hD.out.run.q_lt
      have hml : m ≤ 100 := by have h1 := hmk.out; omega
      by_cases hlt : (k : Int) < z.segs * z.slots
      · have hpu := puts_live bA (by decide) (k : Int) (by omega)
        have hwu : IntKind.u64.wrap (k : Int) = (k : Int) := IntWalk.u64_in _ (by omega)
        have hok := hD.out.g.ok (by omega)
        have hsok := hD.out.g.sealOk (by omega) 1
        have hF := (hpu.recOf hok).2
        obtain ⟨ap, hape⟩ : ∃ ap, s.append 1 (liveR bA (k : Int)) = ap := ⟨_, rfl⟩
        have hap : ∀ v, Now (fun _ => False) W v (s.parts g gd 1 A1 k1 A2 k2 A3 k3 ++ [Thing.cells W.heap.size 24 z.cells]) → Calls Tryz.prog 16 #[.pointer (some ⟨g, 0, none⟩), .agg #[.int .u64 0, .int .u32 0, .int .i64 1, .int .u64 (k : Int), .int .u64 9, .string ⟨#[97]⟩, .string ⟨#[118]⟩]] v fun e w' => e = .returned (.tuple #[.agg #[.int .i64 ap.2.1, .int .i64 ap.2.2.1], .int .i64 ap.1]) ∧ GotLog (fun _ => False) W w' ap.2.2.2 g gd 1 [Thing.cells W.heap.size 24 z.cells] := fun v h => by
          have h1 := Append_any s hok hsok g gd (by decide) (liveR bA (k : Int)) hF A1 k1 A2 k2 A3 k3 h
          rw [hape] at h1
          exact h1
        have hnext : ∃ (q2 r2 m2 : Nat) (s2 : LSt), ap = (0, (q2 : Int), ap.2.2.1, s2) ∧ ((k + 1 : Nat) : Int) = q2 * z.slots + r2 ∧ 1 ≤ r2 ∧ m2 = k + 1 + q2 ∧ FRun z q2 r2 m2 s2 := by
          by_cases hrs : (r : Int) < z.slots
          · obtain ⟨s2, e2, hD'⟩ := hD.out.put (by omega) hpu hrs
            rw [hape] at e2
            refine ⟨q, r + 1, m + 1, s2, by rw [e2], ?_, by omega, ?_, hD'⟩
            · have h1 := hk.out; omega
            · have h1 := hmk.out; omega
          · have hrs2 : (r : Int) = z.slots := by omega
            have hq2 := more_of (k := k) (q := q) (σ := z.slots) (g := z.segs) ⟨by omega, hl.2⟩ (by have h1 := hk.out; rw [hrs2] at h1; exact h1) hlt
            obtain ⟨s2, e2, hD'⟩ := hD.out.roll (by omega) hpu hrs2 hq2
            rw [hape] at e2
            refine ⟨q + 1, 1, m + 2, s2, by rw [e2], ?_, by omega, ?_, hD'⟩
            · have h1 := hk.out
              rw [hrs2] at h1
              have h2 : ((q + 1 : Nat) : Int) * z.slots = q * z.slots + z.slots := by rw [Int.natCast_add, Int.add_mul]; simp
              omega
            · have h1 := hmk.out; omega
        obtain ⟨q2, r2, m2, s2, e2, hk2, hr2, hm2, hD2⟩ := hnext
        obtain ⟨ae, ag, asl, s'⟩ := ap
        dsimp only at hap
        obtain rfl : ae = 0 := congrArg (·.1) e2
        obtain rfl : s' = s2 := congrArg (·.2.2.2) e2
        have HK2 := Lib.hid hk2
        have HM2 := Lib.hid hm2
        clear e2 hk2 hm2 hape hF hok hsok
        go_wp2_with (first
          | (go_at_call 18; (with_reducible refine (hlv _ _ _).mono ?_); rintro e wl ⟨rfl, hB⟩; replace hS := Now.below hS hB; clear hB)
          | (go_at_call 16; have hap' := hap _ hS; clear hap hS; refine hap'.mono ?_; clear hap'; rintro e w10 ⟨rfl, B1, j1, B2, j2, B3, j3, hS10⟩; have hS11 := Lib.hid (Now.alloc hS10 (.cells #[.int .i64 ag, .int .i64 asl] 36)); clear hS10))
        go_roundw
        case rel => exact ⟨k + 1, q2, r2, m2, s', B1, j1, B2, j2, B3, j3, by go_num, HK2, .inl hr2, HM2, by omega, Lib.hid hD2, hS11⟩
        case measure => simp [intOf] <;> omega
      · obtain ⟨e1, e2, e3⟩ := end_of (k := k) (q := q) (r := r) (σ := z.slots) (g := z.segs) ⟨by omega, hl.2⟩ hk.out hrl hql (by omega)
        have hpu := puts_live bA (by decide) 0 (by decide)
        have hok := hD.out.g.ok (by omega)
        have hsok := hD.out.g.sealOk (by omega) 1
        have hF := (hpu.recOf hok).2
        obtain ⟨ap, hape⟩ : ∃ ap, s.append 1 (liveR bA 0) = ap := ⟨_, rfl⟩
        have hap : ∀ v, Now (fun _ => False) W v (s.parts g gd 1 A1 k1 A2 k2 A3 k3 ++ [Thing.cells W.heap.size 24 z.cells]) → Calls Tryz.prog 16 #[.pointer (some ⟨g, 0, none⟩), .agg #[.int .u64 0, .int .u32 0, .int .i64 1, .int .u64 0, .int .u64 9, .string ⟨#[97]⟩, .string ⟨#[118]⟩]] v fun e w' => e = .returned (.tuple #[.agg #[.int .i64 ap.2.1, .int .i64 ap.2.2.1], .int .i64 ap.1]) ∧ GotLog (fun _ => False) W w' ap.2.2.2 g gd 1 [Thing.cells W.heap.size 24 z.cells] := fun v h => by
          have h1 := Append_any s hok hsok g gd (by decide) (liveR bA 0) hF A1 k1 A2 k2 A3 k3 h
          rw [hape] at h1
          exact h1
        have hful := hD.out.run.append_full (by omega) hpu e2 e1
        rw [hape] at hful
        subst hful
        dsimp only at hap
        have hnk : ¬ (k : Int) < z.segs * z.slots := hlt
        have hag : ∃ ag asl : Int, ag = 0 ∧ asl = 0 := ⟨0, 0, rfl, rfl⟩
        clear hape hF
        go_wp2_with (first
          | (go_at_call 18; (with_reducible refine (hlv _ _ _).mono ?_); rintro e wl ⟨rfl, hB⟩; replace hS := Now.below hS hB; clear hB)
          | (go_at_call 16; have hap' := hap _ hS; clear hap hS; refine hap'.mono ?_; clear hap'; rintro e w10 ⟨rfl, A1, k1, A2, k2, A3, k3, hS10⟩; have hS := Now.alloc hS10 (.cells #[.int .i64 0, .int .i64 0] 36); clear hS10))
        have hsx := fun (S0 : Nat → Prop) (w0 : World) v (h : Now S0 w0 v (s.parts g gd 1 A1 k1 A2 k2 A3 k3 ++ [Thing.cells W.heap.size 24 z.cells])) => Seal_none s hok (hD.out.run.free_end e1) g gd 1 A1 k1 A2 k2 A3 k3 h
        have hlsn : Hid (s.lsn = z.segs * z.slots + z.segs) := Lib.hid (by rw [hD.out.run.lsn, hmk.out]; omega)
        have hi2 : IntKind.i64.wrap (z.segs * z.slots + z.segs) = z.segs * z.slots + z.segs := IntWalk.i64_in _ (by omega)
        have hv2 : wrap64 (z.segs * z.slots + z.segs) = z.segs * z.slots + z.segs := IntWalk.wrap64_in _ (by omega)
        have hu2 : IntKind.u64.wrap (z.segs * z.slots + z.segs) = z.segs * z.slots + z.segs := IntWalk.u64_in _ (by omega)
        have hS2 := hS.drew
        have hlog := Now.blk (pre := []) hS2
        have hcb := Now.blk (pre := [_, _, _, _, _]) hS2
        have HB : g < (w10.alloc (.cells #[.int .i64 0, .int .i64 0] 36)).drew.heap.size := hlog.lt
        clear hS hlv hlog hcb
        refine wp_region_takes ((KeepG.grow g).and (KeepG.grow W.heap.size)) [] [(0, true), (1, true), (2, true), (3, true)] 13 (by kernel_rfl) (by kernel_rfl) rfl (by kernel_rfl) (by intro _ _ d _ _ h; cases d <;> exact h) ?_
        iterate 4
          (apply wpTakes_pure
           · exact rfl
           · intro w1
             skip
             go_simp
             first
               | with_reducible exact ⟨rfl, Newer.grow.refl _⟩
           simp only [Act.put, List.setIfInBounds_toArray, List.set_cons_zero, List.set_cons_succ])
        refine wpTakes_done ?_
        generalize (w10.alloc (.cells #[.int .i64 0, .int .i64 0] 36)).drew = wc at hS2 ⊢
        refine wpAnyE_fork [4] (by kernel_rfl) (by simp) ?_
        refine List.forall_mem_cons.2 ⟨?_, List.forall_mem_nil _⟩
        refine ⟨_, rfl, ?_⟩
        intro w1 h1 K hK
        have hS3 := Now.below hS2 h1
        obtain ⟨SS, hSS, hback⟩ := Now.step hS3
        go_simp
        go_at_call 19
        refine (hsx _ _ _ hSS).mono ?_
        rintro e w14 ⟨rfl, hS4⟩
        refine hK _ _ (fun _ => ⟨fun _ => ⟨(Now.blk (pre := []) hS4).trans (Now.blk (pre := []) hSS).symm, hS4.size⟩, fun _ => ⟨(Now.blk (pre := [_, _, _, _, _]) hS4).trans (Now.blk (pre := [_, _, _, _, _]) hSS).symm, hS4.size⟩⟩) ?_
        have hS5 := hback _ _ hS4
        clear hK K hS3 hS2 h1 hsx hSS hback hS4 HB
        try simp only [Act.put, List.setIfInBounds_toArray, List.set_cons_zero, List.set_cons_succ]
        apply wpAnyE_pure ((KeepG.grow g).and (KeepG.grow W.heap.size)) 5
        · kernel_rfl
        · intro _ _ d _ _ h; cases d <;> exact h
        · exact rfl
        · kernel_rfl
        · intro w1
          go_simp
          exact ⟨rfl, Newer.grow.refl _⟩
        try simp only [Act.put, List.setIfInBounds_toArray, List.set_cons_zero, List.set_cons_succ]
        apply wpAnyE_pure ((KeepG.grow g).and (KeepG.grow W.heap.size)) 6
        · kernel_rfl
        · intro _ _ d _ _ h; cases d <;> exact h
        · exact rfl
        · kernel_rfl
        · intro w1
          go_simp
          exact ⟨rfl, Newer.grow.refl _⟩
        try simp only [Act.put, List.setIfInBounds_toArray, List.set_cons_zero, List.set_cons_succ]
        apply wpAnyE_pure ((KeepG.grow g).and (KeepG.grow W.heap.size)) 7
        · kernel_rfl
        · intro _ _ d _ _ h; cases d <;> exact h
        · exact rfl
        · kernel_rfl
        · intro w1
          go_simp
          exact ⟨rfl, Newer.grow.refl _⟩
        try simp only [Act.put, List.setIfInBounds_toArray, List.set_cons_zero, List.set_cons_succ]
        apply wpAnyE_pure ((KeepG.grow g).and (KeepG.grow W.heap.size)) 8
        · kernel_rfl
        · intro _ _ d _ _ h; cases d <;> exact h
        · exact rfl
        · kernel_rfl
        · intro w1
          go_simp
          exact ⟨rfl, Newer.grow.refl _⟩
        try simp only [Act.put, List.setIfInBounds_toArray, List.set_cons_zero, List.set_cons_succ]
        apply wpAnyE_pure ((KeepG.grow g).and (KeepG.grow W.heap.size)) 10
        · kernel_rfl
        · intro _ _ d _ _ h; cases d <;> exact h
        · exact rfl
        · kernel_rfl
        · intro w1
          go_simp
          exact ⟨rfl, Newer.grow.refl _⟩
        try simp only [Act.put, List.setIfInBounds_toArray, List.set_cons_zero, List.set_cons_succ]
        apply wpAnyE_pure ((KeepG.grow g).and (KeepG.grow W.heap.size)) 11
        · kernel_rfl
        · intro _ _ d _ _ h; cases d <;> exact h
        · exact rfl
        · kernel_rfl
        · intro w1
          go_simp
          exact ⟨rfl, Newer.grow.refl _⟩
        try simp only [Act.put, List.setIfInBounds_toArray, List.set_cons_zero, List.set_cons_succ]
        have hlog := Now.blk (pre := []) hS5
        have hcb := Now.blk (pre := [_, _, _, _, _]) hS5
        apply wpAnyE_takeD ((KeepG.grow g).and (KeepG.grow W.heap.size)) 9 []
        · kernel_rfl
        · (intro _ _ d _ _ h; cases d <;> exact h)
        · exact rfl
        · kernel_rfl
        · intro wv hR1
          (have hl9 := (LSN_any g gd s.T A1 k1 A2 k2 A3 k3 s.lsn 1 s.gen wv (KeepG.blk (w := w14) hR1.1 hlog)))
          go_simp
          first
            | with_reducible exact ⟨rfl, Newer.grow.refl _⟩
            | exact hl9.mono fun e w' h => ⟨h.1.trans (by rw [hlsn.out]), h.2 ▸ Newer.refl wv⟩
        try simp only [Act.put, List.setIfInBounds_toArray, List.set_cons_zero, List.set_cons_succ]
        apply wpAnyE_takeD ((KeepG.grow g).and (KeepG.grow W.heap.size)) 12 []
        · kernel_rfl
        · (intro _ _ d _ _ h; cases d <;> exact h)
        · exact rfl
        · kernel_rfl
        · intro wv hR1
          (have c0 : wv.cell? ⟨W.heap.size, 0, none⟩ = some (Value.int .i64 z.segs) := (KeepG.blk (w := w14) hR1.2 hcb).cell 0)
          go_simp
          first
            | with_reducible exact ⟨rfl, Newer.grow.refl _⟩
        try simp only [Act.put, List.setIfInBounds_toArray, List.set_cons_zero, List.set_cons_succ]
        apply wpAnyE_pure ((KeepG.grow g).and (KeepG.grow W.heap.size)) 13
        · kernel_rfl
        · intro _ _ d _ _ h; cases d <;> exact h
        · exact rfl
        · kernel_rfl
        · intro w1
          go_simp
          exact ⟨rfl, Newer.grow.refl _⟩
        try simp only [Act.put, List.setIfInBounds_toArray, List.set_cons_zero, List.set_cons_succ]
        apply wpAnyE_pure ((KeepG.grow g).and (KeepG.grow W.heap.size)) 14
        · kernel_rfl
        · intro _ _ d _ _ h; cases d <;> exact h
        · exact rfl
        · kernel_rfl
        · intro w1
          go_simp
          exact ⟨rfl, Newer.grow.refl _⟩
        try simp only [Act.put, List.setIfInBounds_toArray, List.set_cons_zero, List.set_cons_succ]
        apply wpAnyE_pure ((KeepG.grow g).and (KeepG.grow W.heap.size)) 15
        · kernel_rfl
        · intro _ _ d _ _ h; cases d <;> exact h
        · exact rfl
        · kernel_rfl
        · intro w1
          go_simp
          exact ⟨rfl, Newer.grow.refl _⟩
        try simp only [Act.put, List.setIfInBounds_toArray, List.set_cons_zero, List.set_cons_succ]
        apply wpAnyE_pure ((KeepG.grow g).and (KeepG.grow W.heap.size)) 16
        · kernel_rfl
        · intro _ _ d _ _ h; cases d <;> exact h
        · exact rfl
        · kernel_rfl
        · intro w1
          go_simp
          exact ⟨rfl, Newer.grow.refl _⟩
        try simp only [Act.put, List.setIfInBounds_toArray, List.set_cons_zero, List.set_cons_succ]
        refine wpAnyE_end (by kernel_rfl) fun w15 h15 => ?_
        have hS := Now.below hS5 h15
        clear hS5 h15 hlog hcb
        have hlv : ∀ (id : ByteArray) (ver : Int) (v : World), Calls Tryz.prog 18 #[.string id, .int .u64 ver] v fun e w' => e = .returned (.agg #[.int .u64 0, .int .u32 0, .int .i64 1, .int .u64 ver, .int .u64 9, .string id, .string ⟨#[118]⟩]) ∧ Newer v w' := live_any
        have hcb := Now.blk (pre := [_, _, _, _, _]) hS
        have c0 : w15.cell? ⟨W.heap.size, 0, none⟩ = some (Value.int .i64 z.segs) := hcb.cell 0
        have c1 : w15.cell? ⟨W.heap.size, 1, none⟩ = some (Value.int .i64 z.slots) := hcb.cell 1
        clear hcb
        obtain ⟨hy0, hy⟩ := lowOf_le sg 255 (by omega)
        obtain ⟨y, hy1⟩ : ∃ y : Nat, lowOf sg 255 = (y : Int) := ⟨(lowOf sg 255).toNat, by omega⟩
        have hyy : bits .and .i64 sg 255 = (y : Int) := (bits_low sg 255 (by omega)).trans hy1
        have hws : wrap64 (z.segs - 1) = z.segs - 1 := IntWalk.wrap64_in _ (by omega)
        have hz1 : ¬ (z.segs - 1 = 0) := by omega
        have hrm : (y : Int).tmod (z.segs - 1) = (y : Int) % (z.segs - 1) := Int.tmod_eq_emod_of_nonneg (by omega)
        have hrb : 0 ≤ (y : Int) % (z.segs - 1) ∧ (y : Int) % (z.segs - 1) < z.segs - 1 := ⟨Int.emod_nonneg _ hz1, Int.emod_lt_of_pos _ (by omega)⟩
        obtain ⟨κ, hκ⟩ : ∃ κ : Nat, (y : Int) % (z.segs - 1) = κ := ⟨((y : Int) % (z.segs - 1)).toNat, by omega⟩
        rw [hκ] at hrm hrb
        obtain ⟨hidx, hlt', hG2⟩ := hD.out.dropped e1 e2 κ (by omega) 5
        have hgen := hD.out.run.gen
        have hdr : ∀ v, Now (fun _ => False) W v (s.parts g gd 1 A1 k1 A2 k2 A3 k3 ++ [Thing.cells W.heap.size 24 z.cells]) → Calls Tryz.prog 21 #[.pointer (some ⟨g, 0, none⟩), .int .i64 (κ : Int), .int .u64 5] v fun e w' => e = .returned (.int .i64 0) ∧ GotLog (fun _ => False) W w' (dropS s κ 5) g gd 1 [Thing.cells W.heap.size 24 z.cells] := fun v h => by
          have h1 := LDrop_ok g gd s.T hok.t A1 k1 A2 k2 A3 k3 s.lsn 1 s.gen (κ : Int) 5 s.d (Nat.le_trans hok.pend (by decide)) ⟨hok.lsn.1, by have := hok.lsn.2; omega⟩ (by decide) ⟨hok.gen.1, by have := hok.gen.2; omega⟩ (by decide) κ hidx hlt' h
          rw [ckDo_free s.d s.gen _ hD.out.lim (by have h2 := sec_bound z.segs z.slots (by omega) (by omega); have h3 := hD.out.run.n; omega) (enc_size _)] at h1
          exact h1
        have HG2 := Lib.hid hG2
        generalize dropS s κ 5 = sd at hdr HG2
        clear hκ hidx hlt' hG2 hgen hok hsok hy0 hy hy1
        go_wp2_with (go_at_call 21; have hd' := hdr _ hS; clear hdr hS c0 c1; (with_reducible refine hd'.mono ?_); clear hd'; rintro e w16 ⟨rfl, A1, k1, A2, k2, A3, k3, hS⟩)
        go_loopw [15] (fun vi wr => ∃ (i m2 : Nat) (s2 : LSt) (A1 : Option Addr) (k1 : Nat) (A2 : Option Addr) (k2 : Nat) (A3 : Option Addr) (k3 : Nat), vi = .int .i64 i ∧ (i : Int) ≤ z.slots ∧ m2 ≤ m + 2 * i ∧ Hid (G2 z κ i m2 s2) ∧ Hid (Now (fun _ => False) W wr (s2.parts g gd 1 A1 k1 A2 k2 A3 k3 ++ [Thing.cells W.heap.size 24 z.cells]))) (fun vi _ => 31 - (intOf vi).toNat)
        case atStart => exact ⟨0, m, sd, A1, k1, A2, k2, A3, k3, rfl, by omega, by omega, HG2, Lib.hid hS⟩
        case round =>
          clear hS HG2
          obtain ⟨i, m2, s2, A1, k1, A2, k2, A3, k3, rfl, hi, hm2, hG, hS⟩ := hrel
          replace hS := hS.out
          have hm3 : m2 ≤ 1000 := by omega
          have hcb := Now.blk (pre := [_, _, _, _, _]) hS
          have c1 : wr.cell? ⟨W.heap.size, 1, none⟩ = some (Value.int .i64 z.slots) := hcb.cell 1
          clear hcb
          have hok := hG.out.g.ok (by omega)
          have hsok := hG.out.g.sealOk (by omega) 1
          by_cases hlt2 : (i : Int) < z.slots
          · have hpu := puts_live bB (by decide) (i : Int) (by omega)
            have hF := (hpu.recOf hok).2
            have hwu : IntKind.u64.wrap (i : Int) = (i : Int) := IntWalk.u64_in _ (by omega)
            obtain ⟨m4, s4, hm4, ha, hG4⟩ := hG.out.step hlt2 (by omega) hpu
            have hap : ∀ v, Now (fun _ => False) W v (s2.parts g gd 1 A1 k1 A2 k2 A3 k3 ++ [Thing.cells W.heap.size 24 z.cells]) → Calls Tryz.prog 16 #[.pointer (some ⟨g, 0, none⟩), .agg #[.int .u64 0, .int .u32 0, .int .i64 1, .int .u64 (i : Int), .int .u64 9, .string ⟨#[98]⟩, .string ⟨#[118]⟩]] v fun e w' => e = .returned (.tuple #[.agg #[.int .i64 (κ : Int), .int .i64 (i : Int)], .int .i64 0]) ∧ GotLog (fun _ => False) W w' s4 g gd 1 [Thing.cells W.heap.size 24 z.cells] := fun v h => by
              have h1 := Append_any s2 hok hsok g gd (by decide) (liveR bB (i : Int)) hF A1 k1 A2 k2 A3 k3 h
              rw [ha] at h1
              exact h1
            clear ha hF hok hsok
            go_wp2_with (first
              | (go_at_call 18; (with_reducible refine (hlv _ _ _).mono ?_); rintro e wl ⟨rfl, hB⟩; replace hS := Now.below hS hB; clear hB)
              | (go_at_call 16; have hap' := hap _ hS; clear hap hS c1; refine hap'.mono ?_; clear hap'; rintro e w10 ⟨rfl, B1, j1, B2, j2, B3, j3, hS10⟩; have hS11 := Lib.hid (Now.alloc hS10 (.cells #[.int .i64 (κ : Int), .int .i64 (i : Int)] 36)); clear hS10))
            go_roundw
            case rel => exact ⟨i + 1, m4, s4, B1, j1, B2, j2, B3, j3, by go_num, by omega, by omega, Lib.hid hG4, hS11⟩
            case measure => simp [intOf] <;> omega
          · have hpu := puts_live bB (by decide) 0 (by decide)
            have hF := (hpu.recOf hok).2
            have ha := hG.out.full (by omega) (by omega) hpu
            have hap : ∀ v, Now (fun _ => False) W v (s2.parts g gd 1 A1 k1 A2 k2 A3 k3 ++ [Thing.cells W.heap.size 24 z.cells]) → Calls Tryz.prog 16 #[.pointer (some ⟨g, 0, none⟩), .agg #[.int .u64 0, .int .u32 0, .int .i64 1, .int .u64 0, .int .u64 9, .string ⟨#[98]⟩, .string ⟨#[118]⟩]] v fun e w' => e = .returned (.tuple #[.agg #[.int .i64 0, .int .i64 0], .int .i64 10]) ∧ GotLog (fun _ => False) W w' s2 g gd 1 [Thing.cells W.heap.size 24 z.cells] := fun v h => by
              have h1 := Append_any s2 hok hsok g gd (by decide) (liveR bB 0) hF A1 k1 A2 k2 A3 k3 h
              rw [ha] at h1
              exact h1
            clear ha hF hok hsok
            go_wp2_with (first
              | (go_at_call 18; (with_reducible refine (hlv _ _ _).mono ?_); rintro e wl ⟨rfl, hB⟩; replace hS := Now.below hS hB; clear hB)
              | (go_at_call 16; have hap' := hap _ hS; clear hap hS c1; refine hap'.mono ?_; clear hap'; rintro e w10 ⟨rfl, B1, j1, B2, j2, B3, j3, hS10⟩; have hS11 := Now.alloc hS10 (.cells #[.int .i64 0, .int .i64 0] 36); clear hS10)
              | (go_at_call 12; (with_reducible refine (hfx _).mono ?_); rintro e w11 ⟨rfl, hB⟩; have hS12 := Now.below hS11 hB; clear hB hS11))
            go_ret
            exact ⟨rfl, Sep.base hS12⟩
end Go.Proofs.YthlbciinpidedaaGreat

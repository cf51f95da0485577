/- The walk of LogLasts. -/
import Derived.Test.YthlbciinpidedaaGreatZK23
import Derived.Test.YthlbciinpidedaaGreatZLastPure
import Derived.Test.YthlbciinpidedaaGreatZCrash9
import Derived.Test.YthlbciinpidedaaGreatZRef7
namespace Go.Proofs.YthlbciinpidedaaGreat
set_option linter.unusedSimpArgs false
set_option linter.unusedVariables false
set_option maxRecDepth 100000
open Go.RowKit
attribute [local go_sem high] run_mx run_mn
attribute [local go_sem] run_store_flt
theorem u8_in {n : Int} (h : (Lit.int .u8 n).wf = true) : 0 ≤ n ∧ n < 256 := by
  have h' : IntKind.u8.min ≤ n ∧ n ≤ IntKind.u8.max := by simpa [Lit.wf] using h
  have e1 : IntKind.u8.min = 0 := by decide
  have e2 : IntKind.u8.max = 255 := by decide
  omega
set_option maxHeartbeats 16000000 in
theorem walkLogLasts (W : World) (c : Cnf) (hc : c.Wf) (nn : Int) (hnn : (Lit.int .u8 nn).wf = true) (x : Crs) (hx : x.Wf W) :
    Calls Tryz.prog 9 #[.agg c.cells, .int .u8 nn, .agg x.cells] W fun e w' => e = .returned (.bool true) ∧ Below W.heap.size W w' := by
  have hfx := fixed_any
  have hsm := fun v => Small_any c hc.share v
  have hsh : c.small.share < 18446744073709551616 := by rw [c.small_share]; exact hc.share
  have hmy := fun v => May_any c.small hsh v
  rw [c.small_may] at hmy
  have hS0 := Now.swap (Now.pushCells (Now.pushCells (Sep.start W) 24 c.cells) 98 x.cells)
  simp only [World.size_alloc] at hS0
  have hcb := Now.blk (pre := []) hS0
  have fc := fun k => hcb.frozen k
  have c0 : _ = some (Value.int .i64 c.segs) := hcb.cell 0
  have c1 : _ = some (Value.int .i64 c.slots) := hcb.cell 1
  have c2 : _ = some (Value.float .f64 c.share) := hcb.cell 2
  have c3 : _ = some (Value.int .i64 c.rate) := hcb.cell 3
  clear hcb
  cases hm : c.may with
  | false =>
    rw [hm] at hmy
    go_enter Tryz.func9, Tryz.ntmps9
    go_wp2_with (first
      | (go_at_call 10; (with_reducible refine (hsm _).mono ?_); rintro e w1 ⟨rfl, hB⟩; have hS1 := Now.below hS0 hB; have hcb := Now.blk (pre := []) hS1; replace c0 : w1.cell? ⟨W.heap.size, 0, none⟩ = some (Value.int .i64 c.segs) := hcb.cell 0; replace c1 : w1.cell? ⟨W.heap.size, 1, none⟩ = some (Value.int .i64 c.slots) := hcb.cell 1; replace c2 : w1.cell? ⟨W.heap.size, 2, none⟩ = some (Value.float .f64 c.share) := hcb.cell 2; replace c3 : w1.cell? ⟨W.heap.size, 3, none⟩ = some (Value.int .i64 c.rate) := hcb.cell 3; replace fc := fun k => hcb.frozen k; have hS2 := Lib.hid (Now.set_ (pre := []) (Now.set_ (pre := []) (Now.set_ (pre := []) (Now.set_ (pre := []) hS1 0 (.int .i64 c.small.segs)) 1 (.int .i64 c.small.slots)) 2 (.float .f64 c.small.share)) 3 (.int .i64 c.small.rate)); clear hcb hsm hS0 hB hS1)
      | (go_at_call 11; (with_reducible refine (hmy _).mono ?_); rintro e w2 ⟨rfl, hB⟩; have hS3 := Now.below hS2.out hB; clear hmy hB hS2 c0 c1 c2 c3 fc)
      | (go_at_call 12; (with_reducible refine (hfx _).mono ?_); rintro e w3 ⟨rfl, hB⟩; have hS4 := Now.below hS3 hB; clear hB hS3))
    go_ret
    exact ⟨rfl, Sep.base hS4⟩
  | true =>
    rw [hm] at hmy
    have hzm : c.small.may = true := by rw [c.small_may]; exact hm
    obtain ⟨hg, hl⟩ := Cnf.small_in hm
    have hmade := fun v => made_ok c.small.sectors c.small hsh hzm (Int.le_refl _) (by have := sec_bound c.small.segs c.small.slots (by omega) (by omega); rw [Cnf.sectors_eq hzm]; omega) v
    have hsec := fun v => RSectors_any c.small hsh v
    have hd0 := lrun_start hzm (by have := sec_bound c.small.segs c.small.slots (by omega) (by omega); rw [Cnf.sectors_eq hzm]; omega)
    go_enter Tryz.func9, Tryz.ntmps9
    go_wp2_with (first
      | (go_at_call 10; (with_reducible refine (hsm _).mono ?_); rintro e w1 ⟨rfl, hB⟩; have hS1 := Now.below hS0 hB; have hcb := Now.blk (pre := []) hS1; replace c0 : w1.cell? ⟨W.heap.size, 0, none⟩ = some (Value.int .i64 c.segs) := hcb.cell 0; replace c1 : w1.cell? ⟨W.heap.size, 1, none⟩ = some (Value.int .i64 c.slots) := hcb.cell 1; replace c2 : w1.cell? ⟨W.heap.size, 2, none⟩ = some (Value.float .f64 c.share) := hcb.cell 2; replace c3 : w1.cell? ⟨W.heap.size, 3, none⟩ = some (Value.int .i64 c.rate) := hcb.cell 3; replace fc := fun k => hcb.frozen k; have hS2 := Lib.hid (Now.set_ (pre := []) (Now.set_ (pre := []) (Now.set_ (pre := []) (Now.set_ (pre := []) hS1 0 (.int .i64 c.small.segs)) 1 (.int .i64 c.small.slots)) 2 (.float .f64 c.small.share)) 3 (.int .i64 c.small.rate)); clear hcb hsm hS0 hB hS1)
      | (go_at_call 11; (with_reducible refine (hmy _).mono ?_); rintro e w2 ⟨rfl, hB⟩; have hS3 := Now.below hS2.out hB; clear hmy hB hS2 c0 c1 c2 c3 fc))
    generalize c.small = z at *
    have hcb := Now.blk (pre := []) hS3
    have hcell : ∀ v, Newer w2.drew v → v.cell? ⟨W.heap.size, 0, none⟩ = some (Value.int .i64 z.segs) ∧ v.cell? ⟨W.heap.size, 1, none⟩ = some (Value.int .i64 z.slots) ∧ v.cell? ⟨W.heap.size, 2, none⟩ = some (Value.float .f64 z.share) ∧ v.cell? ⟨W.heap.size, 3, none⟩ = some (Value.int .i64 z.rate) := fun v hv => by
      have h1 := hcb.below hv.undrew hcb.lt
      exact ⟨h1.cell 0, h1.cell 1, h1.cell 2, h1.cell 3⟩
    have hS4 := hS3.drew
    clear hS3 hcb
    refine wp_region_ord Newer.grow [(0, true), (1, true), (2, true), (3, false), (4, true), (5, true), (6, true), (7, true), (8, true), (9, true), (10, true)] [] (by kernel_rfl) (by kernel_rfl) rfl (by kernel_rfl) (by intro _ _ d _ _ h; cases d <;> exact h) ?_
    iterate 3
      (apply wpOrd_take
       · exact rfl
       · intro w1 h1
         (obtain ⟨c0, c1, c2, c3⟩ := hcell w1 h1)
         go_simp
         first
           | with_reducible exact ⟨rfl, Newer.grow.refl _⟩
           | with_reducible exact hsec _
       simp only [Act.put, List.setIfInBounds_toArray, List.set_cons_zero, List.set_cons_succ])
    refine wpOrd_do rfl ?_
    intro w4 h4 K hK
    have hS5 := Now.below hS4 h4
    go_simp
    go_at_call 13
    refine (hmade _).mono ?_
    rintro e w5 ⟨g, gd, rfl, A1, k1, A2, k2, A3, k3, hO⟩
    refine hK _ _ (Sep.base hO) ?_
    have hS6 := Now.pushAll hS5 hO
    clear hK K hcell hS4 hS5 hO h4 hmade hsec
    try simp only [Act.put, List.setIfInBounds_toArray, List.set_cons_zero, List.set_cons_succ]
    iterate 7
      (apply wpOrd_take
       · exact rfl
       · intro w1 h1
         (skip)
         go_simp
         first
           | with_reducible exact ⟨rfl, Newer.grow.refl _⟩
       simp only [Act.put, List.setIfInBounds_toArray, List.set_cons_zero, List.set_cons_succ])
    refine wpOrd_done fun w6 h6 => ?_
    have hS7 := Now.below hS6 h6
    clear hS6 h6
    have hS : Now (fun _ => False) W w6 ((startS z).parts g gd 1 A1 k1 A2 k2 A3 k3 ++ [Thing.cells W.heap.size 24 z.cells, Thing.cells (W.heap.size + 1) 98 x.cells]) := hS7
    have HD := Lib.hid hd0
    clear hd0 hS7
    generalize startS z = s0 at hS HD
    have hzs : z.segs * z.slots ≤ 30 ∧ 0 ≤ z.segs * z.slots := ⟨Int.le_trans (Int.mul_le_mul hg.2 hl.2 (by omega) (by omega)) (by decide), Int.mul_nonneg (by omega) (by omega)⟩
    have hwm : wrap64 (z.segs * z.slots) = z.segs * z.slots := IntWalk.wrap64_in _ (by omega)
    have hcb := Now.blk (pre := [_, _, _, _, _]) hS
    have c0 : w6.cell? ⟨W.heap.size, 0, none⟩ = some (Value.int .i64 z.segs) := hcb.cell 0
    have c1 : w6.cell? ⟨W.heap.size, 1, none⟩ = some (Value.int .i64 z.slots) := hcb.cell 1
    clear hcb
    have hlv : ∀ (id : ByteArray) (ver : Int) (v : World), Calls Tryz.prog 18 #[.string id, .int .u64 ver] v fun e w' => e = .returned (.agg #[.int .u64 0, .int .u32 0, .int .i64 1, .int .u64 ver, .int .u64 9, .string id, .string ⟨#[118]⟩]) ∧ Newer v w' := live_any
    have hn8 := u8_in hnn
    have hwn : IntKind.i64.wrap nn = nn := IntWalk.i64_in _ (by omega)
    obtain ⟨N, hN⟩ : ∃ N : Nat, nn % 20 = (N : Int) := ⟨(nn % 20).toNat, by omega⟩
    have hr1 : nn.tmod 20 = (N : Int) := (Int.tmod_eq_emod_of_nonneg (by omega)).trans hN
    have hz0 : 1 ≤ z.segs * z.slots := Int.le_trans (by decide : (1 : Int) ≤ 4 * 1) (Int.mul_le_mul hg.1 hl.1 (by omega) (by omega))
    have hzn : ¬ (z.segs * z.slots = 0) := by omega
    have hMb : 0 ≤ (N : Int) % (z.segs * z.slots) ∧ (N : Int) % (z.segs * z.slots) < z.segs * z.slots := ⟨Int.emod_nonneg _ hzn, Int.emod_lt_of_pos _ (by omega)⟩
    obtain ⟨M, hM⟩ : ∃ M : Nat, (N : Int) % (z.segs * z.slots) = (M : Int) := ⟨((N : Int) % (z.segs * z.slots)).toNat, by omega⟩
    have hr2 : (N : Int).tmod (z.segs * z.slots) = (M : Int) := (Int.tmod_eq_emod_of_nonneg (by omega)).trans hM
    rw [hM] at hMb
    clear hM hN hn8
    go_wp2_with fail
    clear c0 c1 hr1 hr2 hwn hzn hnn hz0
    go_loopw [11] (fun vi wr => ∃ (k q r m : Nat) (s : LSt) (A1 : Option Addr) (k1 : Nat) (A2 : Option Addr) (k2 : Nat) (A3 : Option Addr) (k3 : Nat), vi = .int .i64 k ∧ k ≤ M ∧ Hid ((k : Int) = q * z.slots + r) ∧ Hid (m = k + q) ∧ k ≤ 30 ∧ Hid (LRun z q r m s) ∧ Hid (Now (fun _ => False) W wr (s.parts g gd 1 A1 k1 A2 k2 A3 k3 ++ [Thing.cells W.heap.size 24 z.cells, Thing.cells (W.heap.size + 1) 98 x.cells]))) (fun vi _ => 31 - (intOf vi).toNat)
    case atStart => exact ⟨0, 0, 0, 0, s0, A1, k1, A2, k2, A3, k3, rfl, by omega, Lib.hid (by simp), Lib.hid rfl, by omega, HD, Lib.hid hS⟩
    case round =>
      clear hS HD
      obtain ⟨k, q, r, m, s, A1, k1, A2, k2, A3, k3, rfl, hkM, hk, hmk, hk30, hD, hS⟩ := hrel
      replace hS := hS.out
      have hrl := hD.out.f.run.r_le
      have hql := hD.out.f.run.q_lt
      have hml : m ≤ 100 := by have h1 := hmk.out; omega
      by_cases hltM : (k : Int) < (M : Int)
      · have hlt : (k : Int) < z.segs * z.slots := by omega
        obtain ⟨ν, hν⟩ : ∃ ν : Nat, (k : Int) + 1 = (ν : Int) := ⟨k + 1, by omega⟩
        have hνb : 0 ≤ (ν : Int) ∧ (ν : Int) < 100 := by omega
        have HNU := Lib.hid hν
        clear hν
        have hpu := puts_live bA (by decide) (ν : Int) (by omega)
        have hok := hD.out.f.g.ok (by omega)
        have hsok := hD.out.f.g.sealOk (by omega) 1
        have hF := (hpu.recOf hok).2
        obtain ⟨ap, hape⟩ : ∃ ap, s.append 1 (liveR bA (ν : Int)) = ap := ⟨_, rfl⟩
        have hap : ∀ v, Now (fun _ => False) W v (s.parts g gd 1 A1 k1 A2 k2 A3 k3 ++ [Thing.cells W.heap.size 24 z.cells, Thing.cells (W.heap.size + 1) 98 x.cells]) → Calls Tryz.prog 16 #[.pointer (some ⟨g, 0, none⟩), .agg #[.int .u64 0, .int .u32 0, .int .i64 1, .int .u64 (ν : Int), .int .u64 9, .string ⟨#[97]⟩, .string ⟨#[118]⟩]] v fun e w' => e = .returned (.tuple #[.agg #[.int .i64 ap.2.1, .int .i64 ap.2.2.1], .int .i64 ap.1]) ∧ GotLog (fun _ => False) W w' ap.2.2.2 g gd 1 [Thing.cells W.heap.size 24 z.cells, Thing.cells (W.heap.size + 1) 98 x.cells] := fun v h => by
          have h1 := Append_any s hok hsok g gd (by decide) (liveR bA (ν : Int)) hF A1 k1 A2 k2 A3 k3 h
          rw [hape] at h1
          exact h1
        have hnext : ∃ (q2 r2 m2 : Nat) (s2 : LSt), ap = (0, (q2 : Int), ap.2.2.1, s2) ∧ ((k + 1 : Nat) : Int) = q2 * z.slots + r2 ∧ m2 = k + 1 + q2 ∧ LRun z q2 r2 m2 s2 := by
          by_cases hrs : (r : Int) < z.slots
          · obtain ⟨s2, e2, hD'⟩ := hD.out.put (by omega) hpu hrs
            rw [hape] at e2
            refine ⟨q, r + 1, m + 1, s2, by rw [e2], ?_, ?_, hD'⟩
            · have h1 := hk.out; omega
            · have h1 := hmk.out; omega
          · have hrs2 : (r : Int) = z.slots := by omega
            have hq2 := more_of (k := k) (q := q) (σ := z.slots) (g := z.segs) ⟨by omega, hl.2⟩ (by have h1 := hk.out; rw [hrs2] at h1; exact h1) hlt
            obtain ⟨s2, e2, hD'⟩ := hD.out.roll (by omega) hpu hrs2 hq2
            rw [hape] at e2
            refine ⟨q + 1, 1, m + 2, s2, by rw [e2], ?_, ?_, hD'⟩
            · have h1 := hk.out
              rw [hrs2] at h1
              have h2 : ((q + 1 : Nat) : Int) * z.slots = q * z.slots + z.slots := by rw [Int.natCast_add, Int.add_mul]; simp
              omega
            · have h1 := hmk.out; omega
        obtain ⟨q2, r2, m2, s2, e2, hk2, hm2, hD2⟩ := hnext
        obtain ⟨ae, ag, asl, s'⟩ := ap
        dsimp only at hap
        obtain rfl : ae = 0 := congrArg (·.1) e2
        obtain rfl : s' = s2 := congrArg (·.2.2.2) e2
        have HK2 := Lib.hid hk2
        have HM2 := Lib.hid hm2
        clear e2 hk2 hm2 hape hF hok hsok
        have hb1 : -9223372036854775808 ≤ (ν : Int) ∧ (ν : Int) ≤ 9223372036854775807 := by omega
        have hb2 : 0 ≤ (ν : Int) ∧ (ν : Int) ≤ 18446744073709551615 := by omega
        have hiv : IntKind.i64.wrap ((k : Int) + 1) = (ν : Int) := by rw [HNU.out]; exact IntWalk.i64_in _ hb1
        have hwv : wrap64 ((k : Int) + 1) = (ν : Int) := by rw [HNU.out]; exact IntWalk.wrap64_in _ hb1
        have hwu : IntKind.u64.wrap (ν : Int) = (ν : Int) := IntWalk.u64_in _ hb2
        clear hb1 hb2
        go_wp2_with (first
          | (go_at_call 18; (with_reducible refine (hlv _ _ _).mono ?_); rintro e wl ⟨rfl, hB⟩; replace hS := Now.below hS hB; clear hB)
          | (go_at_call 16; have hap' := hap _ hS; clear hap hS; refine hap'.mono ?_; clear hap'; rintro e w10 ⟨rfl, B1, j1, B2, j2, B3, j3, hS10⟩; have hS11 := Lib.hid (Now.alloc hS10 (.cells #[.int .i64 ag, .int .i64 asl] 36)); clear hS10))
        clear hwu hiv hwv
        go_roundw
        case rel =>
          obtain rfl : ν = k + 1 := by have := HNU.out; omega
          exact ⟨k + 1, q2, r2, m2, s', B1, j1, B2, j2, B3, j3, rfl, by omega, HK2, HM2, by omega, Lib.hid hD2, hS11⟩
        case measure =>
          obtain rfl : ν = k + 1 := by have := HNU.out; omega
          simp [intOf] <;> omega
      · obtain rfl : k = M := by omega
        have hm36 : m ≤ 40 := by have h1 := hmk.out; omega
        clear hltM hkM
        have hok := hD.out.f.g.ok (by omega)
        obtain ⟨T, lsn, gen, d⟩ := s
        obtain rfl : gen = 1 := hD.out.f.run.gen
        have hT : T.Ok := hok.t
        have hlsn : lsn = 1 + (m : Int) := hD.out.f.run.lsn
        have hdn : d.n = 2 + z.segs * (z.slots + 1) := hD.out.f.run.n
        have hdl : d.lim = false := hD.out.f.lim
        have hdp : d.pend.length ≤ 1000000 := Nat.le_trans hok.pend (by decide)
        have hn2 : 2 ≤ d.n := by have h2 := sec_bound z.segs z.slots (by omega) (by omega); rw [hdn]; omega
        obtain ⟨bs, hkeep⟩ := hx.keep
        have hck1 : ∀ v, Now (fun _ => False) W v (logParts g gd T A1 k1 A2 k2 A3 k3 lsn 1 1 d ++ [Thing.cells W.heap.size 24 z.cells, Thing.cells (W.heap.size + 1) 98 x.cells]) → Calls Tryz.prog 44 #[.pointer (some ⟨g, 0, none⟩), .int .u64 (k : Int)] v fun e w' => e = .returned (.int .i64 0) ∧ Now (fun _ => False) W w' (logParts g gd T A1 k1 A2 k2 A3 k3 lsn 1 2 (((d.flush).write 0 ⟨(T.chk 2 1 lsn (k : Int)).enc.toArray⟩).flush) ++ [Thing.cells W.heap.size 24 z.cells, Thing.cells (W.heap.size + 1) 98 x.cells]) := fun v h => by
          have h1 := Checkpoint_any g gd T hT A1 k1 A2 k2 A3 k3 lsn 1 1 (k : Int) d hdp (by omega) (by decide) (by decide) (by omega) h
          rw [ckDo_free d 1 _ hdl hn2 (enc_size _)] at h1
          exact h1
        have hduo := hD.out.ck ⟨(T.chk 2 1 lsn (k : Int)).enc.toArray⟩ (enc_size _)
        have hbest := last_best hzm T hT lsn (k : Int) (by omega) (by omega) hn2 hduo x.limit bs x.torn x.at_
        have hlate := ck_late (b' := ⟨(T.chk 3 1 lsn 99).enc.toArray⟩) (hduo.limit x.limit) (enc_size _) hn2
        have hp2 : (((d.flush).write 0 ⟨(T.chk 2 1 lsn (k : Int)).enc.toArray⟩).flush).pend.length ≤ 1000000 := by rw [hduo.none]; exact Nat.zero_le _
        generalize (((d.flush).write 0 ⟨(T.chk 2 1 lsn (k : Int)).enc.toArray⟩).flush) = d2 at hck1 hbest hlate hp2
        have hli := LLimit gd d2 x.limit
        have hck2 : ∀ (X : List Thing) v, Now (fun _ => False) W v (logParts g gd T A1 k1 A2 k2 A3 k3 lsn 1 2 (d2.limit x.limit) ++ X) → Calls Tryz.prog 44 #[.pointer (some ⟨g, 0, none⟩), .int .u64 99] v fun e w' => e = .returned (.int .i64 (ckDo (d2.limit x.limit) 2 ⟨(T.chk 3 1 lsn 99).enc.toArray⟩).1) ∧ Now (fun _ => False) W w' (logParts g gd T A1 k1 A2 k2 A3 k3 lsn 1 (ckDo (d2.limit x.limit) 2 ⟨(T.chk 3 1 lsn 99).enc.toArray⟩).2.1 (ckDo (d2.limit x.limit) 2 ⟨(T.chk 3 1 lsn 99).enc.toArray⟩).2.2 ++ X) := fun X v h =>
          Checkpoint_any g gd T hT A1 k1 A2 k2 A3 k3 lsn 1 2 99 (d2.limit x.limit) hp2 (by omega) (by decide) (by decide) (by decide) h
        generalize ckDo (d2.limit x.limit) 2 ⟨(T.chk 3 1 lsn 99).enc.toArray⟩ = ck at hbest hlate hck2
        obtain ⟨ce, cg, d4⟩ := ck
        dsimp only at hbest hlate hck2
        have hp4 : d4.pend.length ≤ 1000000000 := by
          rcases hlate.2.2 with (h | h) | h
          · rw [h.none]; exact Nat.zero_le _
          · rw [h.none]; exact Nat.zero_le _
          · rw [h.1]; exact (by decide : (1 : Nat) ≤ 1000000000)
        have hcr : ∀ (pre post : List Thing) v, Now (fun _ => False) W v (pre ++ dskT gd d4 :: post) → Calls Tryz.prog 45 #[.pointer (some ⟨gd, 0, none⟩), .slice x.A x.n x.c, .int .i64 x.torn, .int .i64 x.at_] v fun e w' => e = .returned (.tuple #[]) ∧ Now (fun _ => False) W w' (pre ++ dskT gd (d4.crash bs x.torn x.at_) :: post) := fun pre post v h => Crash_in x.c h hkeep x.torn x.at_ hlate.1 hp4
        have hrd0 := LRead gd (d4.crash bs x.torn x.at_) 0 (Nat.zero_le _)
        have hrd1 := LRead gd (d4.crash bs x.torn x.at_) 1 (Nat.zero_le _)
        generalize d4.crash bs x.torn x.at_ = d5 at hbest hcr hrd0 hrd1
        have hbt := fun v => Best_any (d5.readV 0) (d5.readV 1) v
        generalize d5.readV 0 = s0 at hbest hrd0 hbt
        generalize d5.readV 1 = s1 at hbest hrd1 hbt
        obtain ⟨⟨cg2, cep, cls, cv, co, cn⟩, ci, hb0, hco, hcl, hCR, hgen, hver⟩ := hbest
        rw [hb0] at hbt
        obtain rfl : co = T.order := hco
        obtain rfl : cn = T.lens := hcl
        have hgen : cg2 = 2 ∨ cg2 = 3 := hgen
        have hver : cv = (k : Int) ∨ cv = 99 := hver
        clear hb0 hlate hduo hkeep
        have hbt : ∀ v, Calls Tryz.prog 46 #[.string s0, .string s1] v fun e w' => ∃ AO cO AL cL, e = .returned (.tuple #[.agg #[.int .u64 cg2, .int .u32 cep, .int .u64 cls, .int .u64 cv, .slice AO T.order.length cO, .slice AL T.lens.length cL], .int .i64 ci, .int .i64 0]) ∧ Sep v w' [Thing.row 3 1 (.slice AO T.order.length cO) T.order.length (ints T.order), Thing.row 3 1 (.slice AL T.lens.length cL) T.lens.length (ints T.lens)] := hbt
        have hrf : ∀ AO cO AL cL v, Calls Tryz.prog 49 #[.agg #[.int .u64 cg2, .int .u32 cep, .int .u64 cls, .int .u64 cv, .slice AO T.order.length cO, .slice AL T.lens.length cL]] v fun e w' => e = .returned (.agg #[.int .u64 cg2, .int .u32 cep, .int .u64 cls, .int .u64 cv, .slice AO T.order.length cO, .slice AL T.lens.length cL]) ∧ Newer v w' := fun AO cO AL cL v => CRef_any ⟨cg2, cep, cls, cv, T.order, T.lens⟩ AO cO AL cL v
        have hrt : ∀ AO cO AL cL v, ChkIn v v.heap.size ⟨cg2, cep, cls, cv, T.order, T.lens⟩ AO AL → Calls Tryz.prog 48 #[.agg #[.int .u64 cg2, .int .u32 cep, .int .u64 cls, .int .u64 cv, .slice AO T.order.length cO, .slice AL T.lens.length cL]] v fun e w' => e = .returned (.bool true) ∧ Newer v w' := fun AO cO AL cL v h => RRight_yes ⟨cg2, cep, cls, cv, T.order, T.lens⟩ hCR AO cO AL cL v h
        have hll := hT.len
        have hlm := hT.many
        have hi1 : ∀ A B cA cB v, Reads v v.heap.size 1 A T.order.length (ints T.order) → Reads v v.heap.size 1 B T.order.length (ints T.order) → Calls Tryz.prog 47 #[.slice A T.order.length cA, .slice B T.order.length cB] v fun e w' => e = .returned (.bool true) ∧ Newer v w' := fun A B cA cB v h1 h2 => by
          have h := Ints_any T.order T.order A B cA cB (by omega) (by omega) v h1 h2
          rw [decide_eq_true rfl] at h
          exact h
        have hi2 : ∀ A B cA cB v, Reads v v.heap.size 1 A T.lens.length (ints T.lens) → Reads v v.heap.size 1 B T.lens.length (ints T.lens) → Calls Tryz.prog 47 #[.slice A T.lens.length cA, .slice B T.lens.length cB] v fun e w' => e = .returned (.bool true) ∧ Newer v w' := fun A B cA cB v h1 h2 => by
          have h := Ints_any T.lens T.lens A B cA cB (by omega) (by omega) v h1 h2
          rw [decide_eq_true rfl] at h
          exact h
        have hpos := hT.pos
        have hfs := hT.fst
        obtain ⟨y1, hy1⟩ : ∃ y, T.order[0]? = some y := ⟨_, List.getElem?_eq_getElem (by omega)⟩
        obtain ⟨y2, hy2⟩ : ∃ y, T.lens[0]? = some y := ⟨_, List.getElem?_eq_getElem (by omega)⟩
        obtain ⟨y3, hy3⟩ : ∃ y, T.firsts[0]? = some y := ⟨_, List.getElem?_eq_getElem (by omega)⟩
        obtain ⟨t1, rfl, _, _⟩ := read_cell (k := 0) (u := .int .i64 y1) (Reads.of_own (Now.row (pre := [_]) hS)) (show 0 < T.order.length by omega) (by rw [List.getElem?_map, hy1]; rfl)
        obtain ⟨t2, rfl, _, _⟩ := read_cell (k := 0) (u := .int .i64 y2) (Reads.of_own (Now.row (pre := [_, _]) hS)) (show 0 < T.lens.length by omega) (by rw [List.getElem?_map, hy2]; rfl)
        obtain ⟨t3, rfl, _, _⟩ := read_cell (k := 0) (u := .int .u64 y3) (Reads.of_own (Now.row (pre := [_, _, _]) hS)) (show 0 < T.firsts.length by omega) (by rw [List.getElem?_map, hy3]; rfl)
        have htb := fun v (h : Now (fun _ => False) W v (logParts g gd T (some t1) k1 (some t2) k2 (some t3) k3 lsn 1 2 d2 ++ [Thing.cells W.heap.size 24 z.cells, Thing.cells (W.heap.size + 1) 98 x.cells])) => Table_any g gd T hT t1 k1 t2 k2 t3 k3 lsn 1 2 v (Now.blk (pre := []) h) (tabIn_of (pre := [_]) h)
        have hkb : 0 ≤ (k : Int) ∧ (k : Int) ≤ 18446744073709551615 := by omega
        have hwu : IntKind.u64.wrap (k : Int) = (k : Int) := IntWalk.u64_in _ hkb
        have hk99 : ¬ ((99 : Int) = (k : Int)) := by clear hwu; omega
        clear hy1 hy2 hy3 hT hok hD hk hmk hlsn hdn hdl hdp hn2 hCR hll hlm hpos hfs hrl hql hml hm36 hkb hlv hp2 hp4 hx
        have hpc : ∀ (v : World) (L : List Thing) (AO : Option Addr) (cO : Nat) (AL : Option Addr) (cL : Nat), Now (fun _ => False) W v L → Now (fun _ => False) W (v.alloc (.cells #[.int .u64 cg2, .int .u32 cep, .int .u64 cls, .int .u64 cv, .slice AO T.order.length cO, .slice AL T.lens.length cL] 102)) (Thing.cells v.heap.size 102 #[.int .u64 cg2, .int .u32 cep, .int .u64 cls, .int .u64 cv, .slice AO T.order.length cO, .slice AL T.lens.length cL] :: L) := fun v L AO cO AL cL h => Now.pushCells h _ _
        have hyf : ∀ (v : World) (b : Nat) (L : List Thing) (AO : Option Addr) (cO : Nat) (AL : Option Addr) (cL : Nat), Now (fun _ => False) W v (Thing.cells b 102 #[.int .u64 cg2, .int .u32 cep, .int .u64 cls, .int .u64 cv, .slice AO T.order.length cO, .slice AL T.lens.length cL] :: L) → v.cell? ⟨b, 0, none⟩ = some (.int .u64 cg2) ∧ v.cell? ⟨b, 1, none⟩ = some (.int .u32 cep) ∧ v.cell? ⟨b, 2, none⟩ = some (.int .u64 cls) ∧ v.cell? ⟨b, 3, none⟩ = some (.int .u64 cv) ∧ v.cell? ⟨b, 4, none⟩ = some (.slice AO T.order.length cO) ∧ v.cell? ⟨b, 5, none⟩ = some (.slice AL T.lens.length cL) := fun v b L AO cO AL cL h => by
          have h1 := Now.blk (pre := []) h
          exact ⟨h1.cell 0, h1.cell 1, h1.cell 2, h1.cell 3, h1.cell 4, h1.cell 5⟩
        rcases hgen with rfl | rfl <;> rcases hver with rfl | rfl
        all_goals
          go_wp2_with (first
            | (have _g := hck1; go_at_call 44; have h' := hck1 _ hS; clear hck1 hS _g; (with_reducible refine h'.mono ?_); clear h'; rintro e w10 ⟨rfl, hS⟩)
            | (go_at_call 23; have h' := htb _ hS; (with_reducible refine h'.mono ?_); clear h'; rintro e w11 ⟨C1, m1, C2, m2, C3, m3, rfl, hO⟩; replace hS := Now.perm (show Now (fun _ => False) W (w11.alloc _) ((Thing.cells w11.heap.size 55 (tabCells T C1 m1 C2 m2 C3 m3) :: tabParts T C1 m1 C2 m2 C3 m3) ++ (logParts g gd T (some t1) k1 (some t2) k2 (some t3) k3 lsn 1 2 d2 ++ [Thing.cells W.heap.size 24 z.cells, Thing.cells (W.heap.size + 1) 98 x.cells])) from Now.pushCells (Now.pushAll hS hO) 55 (tabCells T C1 m1 C2 m2 C3 m3)) (List.perm_append_comm_assoc _ _ _); clear hO htb; have hcb := Now.blk (pre := [_, _, _, _, _, _, _, _, _, _]) hS; have x0 : _ = some (Value.int .i64 x.limit) := hcb.cell 0; clear hcb)
            | (go_at_call 15; have h' := Loc.atZ hli [_, _, _, _] _ hS; clear hli hS x0; (with_reducible refine h'.mono ?_); clear h'; rintro e w12 ⟨rfl, _, hS⟩)
            | (go_at_call 44; have h' := hck2 _ _ hS; clear hck2 hS; (with_reducible refine h'.mono ?_); clear h'; rintro e w13 ⟨rfl, hS⟩; have hcb := Now.blk (pre := [_, _, _, _, _, _, _, _, _, _]) hS; have x1 : _ = some (Value.slice x.A x.n x.c) := hcb.cell 1; have x2 : _ = some (Value.int .i64 x.torn) := hcb.cell 2; have x3 : _ = some (Value.int .i64 x.at_) := hcb.cell 3; clear hcb)
            | (go_at_call 45; have h' := hcr [_, _, _, _] _ _ hS; clear hcr hS x1 x2 x3; (with_reducible refine h'.mono ?_); clear h'; rintro e w14 ⟨rfl, hS⟩)
            | (have _g := hrd0; go_at_call 43; have h' := Loc.atZ hrd0 [_, _, _, _] _ hS; clear hrd0 hS _g; (with_reducible refine h'.mono ?_); clear h'; rintro e w15 ⟨rfl, _, hS⟩)
            | (go_at_call 43; have h' := Loc.atZ hrd1 [_, _, _, _] _ hS; clear hrd1 hS; (with_reducible refine h'.mono ?_); clear h'; rintro e w16 ⟨rfl, _, hS⟩)
            | (go_at_call 46; (with_reducible refine (hbt _).mono ?_); clear hbt; rintro e w17 ⟨AO, cO, AL, cL, rfl, hO⟩; replace hS := hpc _ _ AO cO AL cL (Now.pushAll hS hO); clear hO hpc; obtain ⟨y0, y1, y2, y3, y4, y5⟩ := hyf _ _ _ _ _ _ _ hS; have hcb := Now.blk (pre := [_, _, _, _, _, _, _, _]) hS; have z2 : _ = some (Value.slice C1 T.order.length m1) := hcb.cell 2; have z3 : _ = some (Value.slice C2 T.lens.length m2) := hcb.cell 3; clear hcb)
            | (have _g := hi1; go_at_call 47; have h' := hi1 AO C1 cO m1 _ (Reads.of_own (Now.row (pre := [_]) hS)) (Reads.of_own (Now.row (pre := [_, _, _, _, _, _, _, _, _]) hS)); clear hi1 _g; (with_reducible refine h'.mono ?_); clear h'; rintro e w18 ⟨rfl, hB⟩; replace hS := Now.below hS hB; clear hB y0 y1 y2 y3 y4 y5 z2 z3; obtain ⟨y0, y1, y2, y3, y4, y5⟩ := hyf _ _ _ _ _ _ _ hS; have hcb := Now.blk (pre := [_, _, _, _, _, _, _, _]) hS; have z2 : _ = some (Value.slice C1 T.order.length m1) := hcb.cell 2; have z3 : _ = some (Value.slice C2 T.lens.length m2) := hcb.cell 3; clear hcb)
            | (go_at_call 47; have h' := hi2 AL C2 cL m2 _ (Reads.of_own (Now.row (pre := [_, _]) hS)) (Reads.of_own (Now.row (pre := [_, _, _, _, _, _, _, _, _, _]) hS)); clear hi2; (with_reducible refine h'.mono ?_); clear h'; rintro e w19 ⟨rfl, hB⟩; replace hS := Now.below hS hB; clear hB y0 y1 y2 y3 y4 y5 z2 z3; obtain ⟨y0, y1, y2, y3, y4, y5⟩ := hyf _ _ _ _ _ _ _ hS; have hcb := Now.blk (pre := [_, _, _, _, _, _, _, _]) hS; have z2 : _ = some (Value.slice C1 T.order.length m1) := hcb.cell 2; have z3 : _ = some (Value.slice C2 T.lens.length m2) := hcb.cell 3; clear hcb)
            | (go_at_call 49; (with_reducible refine (hrf AO cO AL cL _).mono ?_); clear hrf; rintro e w20 ⟨rfl, hB⟩; replace hS := Now.below hS hB; clear hB y0 y1 y2 y3 y4 y5 z2 z3)
            | (go_at_call 48; have h' := hrt AO cO AL cL _ ⟨Reads.of_own (Now.row (pre := [_]) hS), Reads.of_own (Now.row (pre := [_, _]) hS)⟩; clear hrt; (with_reducible refine h'.mono ?_); clear h'; rintro e w21 ⟨rfl, hB⟩; replace hS := Now.below hS hB; clear hB)
            | (go_at_call 12; (with_reducible refine (hfx _).mono ?_); rintro e w22 ⟨rfl, hB⟩; replace hS := Now.below hS hB; clear hB))
          go_ret
          exact ⟨rfl, Sep.base hS⟩
end Go.Proofs.YthlbciinpidedaaGreat

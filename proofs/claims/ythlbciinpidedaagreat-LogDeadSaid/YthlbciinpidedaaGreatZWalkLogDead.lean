/- The walk of LogDead. -/
import Derived.Test.YthlbciinpidedaaGreatZK23
import Derived.Test.YthlbciinpidedaaGreatZDeadPure
namespace Go.Proofs.YthlbciinpidedaaGreat
set_option linter.unusedSimpArgs false
set_option linter.unusedVariables false
set_option maxRecDepth 100000
open Go.RowKit
attribute [local go_sem high] run_mx run_mn
attribute [local go_sem] run_store_flt
set_option maxHeartbeats 16000000 in
theorem walkLogDead (W : World) (c : Cnf) (hc : c.Wf) (n : Int) (hn : (Lit.int .u8 n).wf = true) :
    Calls Tryz.prog 3 #[.agg c.cells, .int .u8 n] W fun e w' => e = .returned (.bool true) ∧ Below W.heap.size W w' := by
  obtain ⟨hn1, hn2⟩ := bounds_u8 hn
  have hfx := fixed_any
  have hsm := fun v => Small_any c hc.share v
  have hsh : c.small.share < 18446744073709551616 := by rw [c.small_share]; exact hc.share
  have hmy := fun v => May_any c.small hsh v
  rw [c.small_may] at hmy
  have hS0 := Now.pushCells (Sep.start W) 24 c.cells
  have hcb := Now.blk (pre := []) hS0
  have fc := fun k => hcb.frozen k
  have c0 : _ = some (Value.int .i64 c.segs) := hcb.cell 0
  have c1 : _ = some (Value.int .i64 c.slots) := hcb.cell 1
  have c2 : _ = some (Value.float .f64 c.share) := hcb.cell 2
  have c3 : _ = some (Value.int .i64 c.rate) := hcb.cell 3
  clear hcb
  cases hm : c.may with
  | false =>
    rw [hm] at hmy
    go_enter Tryz.func3, Tryz.ntmps3
    go_wp2_with (first
      | (go_at_call 10; (with_reducible refine (hsm _).mono ?_); rintro e w1 ⟨rfl, hB⟩; have hS1 := Now.below hS0 hB; have hcb := Now.blk (pre := []) hS1; replace c0 : w1.cell? ⟨W.heap.size, 0, none⟩ = some (Value.int .i64 c.segs) := hcb.cell 0; replace c1 : w1.cell? ⟨W.heap.size, 1, none⟩ = some (Value.int .i64 c.slots) := hcb.cell 1; replace c2 : w1.cell? ⟨W.heap.size, 2, none⟩ = some (Value.float .f64 c.share) := hcb.cell 2; replace c3 : w1.cell? ⟨W.heap.size, 3, none⟩ = some (Value.int .i64 c.rate) := hcb.cell 3; replace fc := fun k => hcb.frozen k; have hS2 := Lib.hid (Now.set_ (pre := []) (Now.set_ (pre := []) (Now.set_ (pre := []) (Now.set_ (pre := []) hS1 0 (.int .i64 c.small.segs)) 1 (.int .i64 c.small.slots)) 2 (.float .f64 c.small.share)) 3 (.int .i64 c.small.rate)); clear hcb hsm hS0 hB hS1)
      | (go_at_call 11; (with_reducible refine (hmy _).mono ?_); rintro e w2 ⟨rfl, hB⟩; have hS3 := Now.below hS2.out hB; clear hmy hB hS2 c0 c1 c2 c3 fc)
      | (go_at_call 12; (with_reducible refine (hfx _).mono ?_); rintro e w3 ⟨rfl, hB⟩; have hS4 := Now.below hS3 hB; clear hB hS3))
    go_ret
    exact ⟨rfl, Sep.base hS4⟩
  | true =>
    rw [hm] at hmy
    have hzm : c.small.may = true := by rw [c.small_may]; exact hm
    obtain ⟨hg, hl⟩ := Cnf.small_in hm
    have hmade := fun v => made_ok c.small.sectors c.small hsh hzm (Int.le_refl _) (by have := sec_bound c.small.segs c.small.slots (by omega) (by omega); rw [Cnf.sectors_eq hzm]; omega) v
    have hsec := fun v => RSectors_any c.small hsh v
    have hd0 := fun nn => drun_start hzm nn
    go_enter Tryz.func3, Tryz.ntmps3
    go_wp2_with (first
      | (go_at_call 10; (with_reducible refine (hsm _).mono ?_); rintro e w1 ⟨rfl, hB⟩; have hS1 := Now.below hS0 hB; have hcb := Now.blk (pre := []) hS1; replace c0 : w1.cell? ⟨W.heap.size, 0, none⟩ = some (Value.int .i64 c.segs) := hcb.cell 0; replace c1 : w1.cell? ⟨W.heap.size, 1, none⟩ = some (Value.int .i64 c.slots) := hcb.cell 1; replace c2 : w1.cell? ⟨W.heap.size, 2, none⟩ = some (Value.float .f64 c.share) := hcb.cell 2; replace c3 : w1.cell? ⟨W.heap.size, 3, none⟩ = some (Value.int .i64 c.rate) := hcb.cell 3; replace fc := fun k => hcb.frozen k; have hS2 := Lib.hid (Now.set_ (pre := []) (Now.set_ (pre := []) (Now.set_ (pre := []) (Now.set_ (pre := []) hS1 0 (.int .i64 c.small.segs)) 1 (.int .i64 c.small.slots)) 2 (.float .f64 c.small.share)) 3 (.int .i64 c.small.rate)); clear hcb hsm hS0 hB hS1)
      | (go_at_call 11; (with_reducible refine (hmy _).mono ?_); rintro e w2 ⟨rfl, hB⟩; have hS3 := Now.below hS2.out hB; clear hmy hB hS2 c0 c1 c2 c3 fc))
    generalize c.small = z at *
    have hcb := Now.blk (pre := []) hS3
    have hcell : ∀ v, Newer w2.drew v → v.cell? ⟨W.heap.size, 0, none⟩ = some (Value.int .i64 z.segs) ∧ v.cell? ⟨W.heap.size, 1, none⟩ = some (Value.int .i64 z.slots) ∧ v.cell? ⟨W.heap.size, 2, none⟩ = some (Value.float .f64 z.share) ∧ v.cell? ⟨W.heap.size, 3, none⟩ = some (Value.int .i64 z.rate) := fun v hv => by
      have h1 := hcb.below hv.undrew hcb.lt
      exact ⟨h1.cell 0, h1.cell 1, h1.cell 2, h1.cell 3⟩
    have hS4 := hS3.drew
    clear hS3 hcb
    refine wp_region_ord Newer.grow [(0, true), (1, true), (2, true), (3, false), (4, true), (5, true), (6, true), (7, true), (8, true), (9, true), (10, true)] [] (by kernel_rfl) (by kernel_rfl) rfl (by kernel_rfl) (by intro _ _ d _ _ h; cases d <;> exact h) ?_
    iterate 3
      (apply wpOrd_take
       · exact rfl
       · intro w1 h1
         (obtain ⟨c0, c1, c2, c3⟩ := hcell w1 h1)
         go_simp
         first
           | with_reducible exact ⟨rfl, Newer.grow.refl _⟩
           | with_reducible exact hsec _
       simp only [Act.put, List.setIfInBounds_toArray, List.set_cons_zero, List.set_cons_succ])
    refine wpOrd_do rfl ?_
    intro w4 h4 K hK
    have hS5 := Now.below hS4 h4
    go_simp
    go_at_call 13
    refine (hmade _).mono ?_
    rintro e w5 ⟨g, gd, rfl, A1, k1, A2, k2, A3, k3, hO⟩
    refine hK _ _ (Sep.base hO) ?_
    have hS6 := Now.pushAll hS5 hO
    clear hK K hcell hS4 hS5 hO h4 hmade hsec
    try simp only [Act.put, List.setIfInBounds_toArray, List.set_cons_zero, List.set_cons_succ]
    iterate 7
      (apply wpOrd_take
       · exact rfl
       · intro w1 h1
         (skip)
         go_simp
         first
           | with_reducible exact ⟨rfl, Newer.grow.refl _⟩
       simp only [Act.put, List.setIfInBounds_toArray, List.set_cons_zero, List.set_cons_succ])
    refine wpOrd_done fun w6 h6 => ?_
    have hS7 := Now.below hS6 h6
    clear hS6 h6
    have hm40 : n.tmod 40 = n % 40 := Int.tmod_eq_emod_of_nonneg hn1
    have hb40 : 0 ≤ n % 40 ∧ n % 40 < 40 := by omega
    obtain ⟨nn, hnn⟩ : ∃ nn, n % 40 = nn := ⟨_, rfl⟩
    rw [hnn] at hm40 hb40
    clear hnn
    go_wp2_with (go_at_call 15; refine (Loc.atZ (LLimit gd (madeD z.sectors z) nn) [_, _, _, _] _ hS7).mono ?_; rintro e w7 ⟨rfl, _, hS8⟩; clear hS7)
    have hS : Now (fun _ => False) W w7 (LSt.parts { startS z with d := (madeD z.sectors z).limit nn } g gd 1 A1 k1 A2 k2 A3 k3 ++ [Thing.cells W.heap.size 24 z.cells]) := hS8
    have hD := hd0 nn
    clear hd0 hS8
    generalize ({ startS z with d := (madeD z.sectors z).limit nn } : LSt) = s0 at hS hD
    have hzs : z.segs * z.slots ≤ 30 ∧ 0 ≤ z.segs * z.slots := ⟨Int.le_trans (Int.mul_le_mul hg.2 hl.2 (by omega) (by omega)) (by decide), Int.mul_nonneg (by omega) (by omega)⟩
    have hwm : wrap64 (z.segs * z.slots) = z.segs * z.slots := IntWalk.wrap64_in _ (by omega)
    have HD := Lib.hid hD
    clear hD
    go_loopw [8, 9] (fun vn vi wr => ∃ (k q r m : Nat) (x : Int) (s : LSt) (A1 : Option Addr) (k1 : Nat) (A2 : Option Addr) (k2 : Nat) (A3 : Option Addr) (k3 : Nat), vn = .int .i64 x ∧ vi = .int .i64 k ∧ Hid ((k : Int) = q * z.slots + r) ∧ (1 ≤ r ∨ k = 0) ∧ Hid (m = k + q) ∧ k ≤ 30 ∧ 0 ≤ x ∧ x < 40 ∧ Hid (DRun z q r m x s) ∧ Hid (Now (fun _ => False) W wr (s.parts g gd 1 A1 k1 A2 k2 A3 k3 ++ [Thing.cells W.heap.size 24 z.cells]))) (fun _ vi _ => 31 - (intOf vi).toNat)
    case atStart => exact ⟨0, 0, 0, 0, nn, s0, A1, k1, A2, k2, A3, k3, rfl, rfl, Lib.hid (by simp), .inr rfl, Lib.hid rfl, by omega, hb40.1, hb40.2, HD, Lib.hid hS⟩
    case round =>
      clear hS HD
      obtain ⟨k, q, r, m, x, s, A1, k1, A2, k2, A3, k3, rfl, rfl, hk, hrk, hmk, hk30, hx0, hx40, hD, hS⟩ := hrel
      replace hS := hS.out
      have hrl := hD.out.run.r_le
      have hql := hD.out.run.q_lt
      have hcb := Now.blk (pre := [_, _, _, _, _]) hS
      have c0 : wr.cell? ⟨W.heap.size, 0, none⟩ = some (Value.int .i64 z.segs) := hcb.cell 0
      have c1 : wr.cell? ⟨W.heap.size, 1, none⟩ = some (Value.int .i64 z.slots) := hcb.cell 1
      clear hcb
      have hml : m ≤ 100 := by have h1 := hmk.out; omega
      have hok := hD.out.run.ok (by omega)
      have hsok := hD.out.run.sealOk (by omega) 1
      obtain ⟨hR, hF⟩ := puts_tomb.recOf hok
      obtain ⟨ap, hape⟩ : ∃ ap, s.append 1 tombR = ap := ⟨_, rfl⟩
      have hap : ∀ v, Now (fun _ => False) W v (s.parts g gd 1 A1 k1 A2 k2 A3 k3 ++ [Thing.cells W.heap.size 24 z.cells]) → Calls Tryz.prog 16 #[.pointer (some ⟨g, 0, none⟩), .agg #[.int .u64 0, .int .u32 0, .int .i64 2, .int .u64 0, .int .u64 0, .string ⟨#[97]⟩, .string ⟨#[]⟩]] v fun e w' => e = .returned (.tuple #[.agg #[.int .i64 ap.2.1, .int .i64 ap.2.2.1], .int .i64 ap.1]) ∧ GotLog (fun _ => False) W w' ap.2.2.2 g gd 1 [Thing.cells W.heap.size 24 z.cells] := fun v h => by
        have h1 := Append_any s hok hsok g gd (by decide) tombR hF A1 k1 A2 k2 A3 k3 h
        rw [hape] at h1
        exact h1
      obtain ⟨ae, ag, asl, s'⟩ := ap
      dsimp only at hap
      have HAP := Lib.hid hape
      have HFX := hfx
      clear hape hR hF hok hsok
      by_cases hlt : (k : Int) < z.segs * z.slots
      · by_cases hrs : (r : Int) < z.slots
        · have hmd := (mod_of ⟨by omega, hl.2⟩ hk.out).1 hrs
          have happ := hD.out.run.append_put (by omega) puts_tomb hrs
          obtain ⟨p1, p2⟩ := hD.out.put (by omega) ⟨hx0, by omega⟩ puts_tomb hrs
          have hput := HAP.out.symm.trans happ
          by_cases hx : x < 1
          · obtain rfl : ae = 9 := congrArg (·.1) (hput.trans (p1 hx))
            clear p1 p2 hput happ
            rcases hrk with hr1 | hk0
            · have hne : (r : Int) ≠ 0 := by omega
              have hk1 : 0 < k := pos_of ⟨by omega, hl.2⟩ hk.out hr1
              go_wp2_with (first
                | (go_at_call 16; have hap' := hap _ hS; clear hap hS; refine hap'.mono ?_; clear hap'; rintro e w10 ⟨rfl, B1, j1, B2, j2, B3, j3, hS10⟩; replace hS10 := Lib.hid (Now.alloc hS10 (.cells #[.int .i64 ag, .int .i64 asl] 36)); clear c0 c1)
                | (go_at_call 12; (with_reducible refine (hfx _).mono ?_); rintro e w11 ⟨rfl, hB⟩; have hS11 := Now.below hS10.out hB; clear hB hS10))
              go_ret
              exact ⟨rfl, Sep.base hS11⟩
            · subst hk0
              go_wp2_with (first
                | (go_at_call 16; have hap' := hap _ hS; clear hap hS; refine hap'.mono ?_; clear hap'; rintro e w10 ⟨rfl, B1, j1, B2, j2, B3, j3, hS10⟩; replace hS10 := Lib.hid (Now.alloc hS10 (.cells #[.int .i64 ag, .int .i64 asl] 36)); clear c0 c1)
                | (go_at_call 12; (with_reducible refine (hfx _).mono ?_); rintro e w11 ⟨rfl, hB⟩; have hS11 := Now.below hS10.out hB; clear hB hS10))
              go_ret
              exact ⟨rfl, Sep.base hS11⟩
          · obtain ⟨s2, e2, hD'⟩ := p2 (by omega)
            have e3 := hput.trans e2
            obtain rfl : ae = 0 := congrArg (·.1) e3
            obtain rfl : s' = s2 := congrArg (·.2.2.2) e3
            clear p1 p2 hput happ e2 e3
            rcases hrk with hr1 | hk0
            · have hne : (r : Int) ≠ 0 := by omega
              have hk1 : 0 < k := pos_of ⟨by omega, hl.2⟩ hk.out hr1
              have hwx : wrap64 (x - 1) = x - 1 := IntWalk.wrap64_in _ (by omega)
              go_wp2_with (go_at_call 16; have hap' := hap _ hS; clear hap hS; refine hap'.mono ?_; clear hap'; rintro e w10 ⟨rfl, B1, j1, B2, j2, B3, j3, hS10⟩; replace hS10 := Lib.hid (Now.alloc hS10 (.cells #[.int .i64 ag, .int .i64 asl] 36)); clear c0 c1)
              go_roundw
              case rel => exact ⟨k + 1, q, r + 1, m + 1, x - 1, s', B1, j1, B2, j2, B3, j3, rfl, by go_num, Lib.hid (by have h1 := hk.out; omega), .inl (by omega), Lib.hid (by have h1 := hmk.out; omega), by omega, by omega, by omega, Lib.hid hD', hS10⟩
              case measure => simp [intOf] <;> omega
            · subst hk0
              have hwx : wrap64 (x - 1) = x - 1 := IntWalk.wrap64_in _ (by omega)
              go_wp2_with (go_at_call 16; have hap' := hap _ hS; clear hap hS; refine hap'.mono ?_; clear hap'; rintro e w10 ⟨rfl, B1, j1, B2, j2, B3, j3, hS10⟩; replace hS10 := Lib.hid (Now.alloc hS10 (.cells #[.int .i64 ag, .int .i64 asl] 36)); clear c0 c1)
              go_roundw
              case rel => exact ⟨0 + 1, q, r + 1, m + 1, x - 1, s', B1, j1, B2, j2, B3, j3, rfl, by go_num, Lib.hid (by have h1 := hk.out; omega), .inl (by omega), Lib.hid (by have h1 := hmk.out; omega), by omega, by omega, by omega, Lib.hid hD', hS10⟩
              case measure => simp [intOf] <;> omega
        · have hrs2 : (r : Int) = z.slots := by omega
          have hmd := (mod_of ⟨by omega, hl.2⟩ hk.out).2 hrs2
          have hq2 := more_of (k := k) (q := q) (σ := z.slots) (g := z.segs) ⟨by omega, hl.2⟩ (by have h1 := hk.out; rw [hrs2] at h1; exact h1) hlt
          have hk1 : 0 < k := pos_of ⟨by omega, hl.2⟩ hk.out (by omega)
          obtain ⟨p1, p2⟩ := hD.out.roll (by omega) ⟨hx0, by omega⟩ puts_tomb hrs2 hq2
          rw [HAP.out] at p1 p2
          by_cases hx : x < 2
          · obtain rfl : ae = 9 := p1 hx
            clear p1 p2
            go_wp2_with (first
              | (go_at_call 16; have hap' := hap _ hS; clear hap hS; refine hap'.mono ?_; clear hap'; rintro e w10 ⟨rfl, B1, j1, B2, j2, B3, j3, hS10⟩; replace hS10 := Lib.hid (Now.alloc hS10 (.cells #[.int .i64 ag, .int .i64 asl] 36)); clear c0 c1)
              | (go_at_call 12; (with_reducible refine (hfx _).mono ?_); rintro e w11 ⟨rfl, hB⟩; have hS11 := Now.below hS10.out hB; clear hB hS10))
            go_ret
            exact ⟨rfl, Sep.base hS11⟩
          · obtain ⟨s2, e2, hD'⟩ := p2 (by omega)
            obtain rfl : ae = 0 := congrArg (·.1) e2
            obtain rfl : s' = s2 := congrArg (·.2.2.2) e2
            clear p1 p2 e2
            have hwx : wrap64 (x - 2) = x - 2 := IntWalk.wrap64_in _ (by omega)
            go_wp2_with (go_at_call 16; have hap' := hap _ hS; clear hap hS; refine hap'.mono ?_; clear hap'; rintro e w10 ⟨rfl, B1, j1, B2, j2, B3, j3, hS10⟩; replace hS10 := Lib.hid (Now.alloc hS10 (.cells #[.int .i64 ag, .int .i64 asl] 36)); clear c0 c1)
            go_roundw
            case rel => exact ⟨k + 1, q + 1, 1, m + 2, x - 2, s', B1, j1, B2, j2, B3, j3, rfl, by go_num, Lib.hid (by have h1 := hk.out; rw [hrs2] at h1; have h2 : ((q + 1 : Nat) : Int) * z.slots = q * z.slots + z.slots := (by rw [Int.natCast_add, Int.add_mul]; simp); omega), .inl (by omega), Lib.hid (by have h1 := hmk.out; omega), by omega, by omega, by omega, Lib.hid hD', hS10⟩
            case measure => simp [intOf] <;> omega
      · obtain ⟨e1, e2, e3⟩ := end_of (k := k) (q := q) (r := r) (σ := z.slots) (g := z.segs) ⟨by omega, hl.2⟩ hk.out hrl hql (by omega)
        have hpe : Hid ((s.d.pend.length : Int) = z.segs * z.slots + z.segs - 1) := Lib.hid (by rw [hD.out.run.pend, hmk.out]; omega)
        obtain ⟨SD, hSD⟩ := Now.get (pre := [_, _, _, _]) (O := dskT gd s.d) hS
        have hcb := Now.blk (pre := [_, _, _, _, _]) hS
        have hkz : ¬ (k : Int) < z.segs * z.slots := hlt
        clear hap HAP HFX
        go_wp2_with fail
        have hcell : ∀ v, Newer wr.drew v → v.cell? ⟨W.heap.size, 0, none⟩ = some (Value.int .i64 z.segs) ∧ v.cell? ⟨W.heap.size, 1, none⟩ = some (Value.int .i64 z.slots) := fun v hv => by
          have h1 := hcb.below hv.undrew hcb.lt
          exact ⟨h1.cell 0, h1.cell 1⟩
        have hpd := fun v (hv : Newer wr.drew v) => NPending gd s.d v SD ((dskT gd s.d).keep hSD (Fr.of_below hv.undrew) (fun k hk hn => absurd ((dskT gd s.d).lt hSD hk) (Nat.not_lt.2 hn)))
        rw [hpe.out] at hpd
        have hv1 : wrap64 (z.segs * z.slots + z.segs) = z.segs * z.slots + z.segs := IntWalk.wrap64_in _ (by omega)
        have hv2 : wrap64 (z.segs * z.slots + z.segs - 1) = z.segs * z.slots + z.segs - 1 := IntWalk.wrap64_in _ (by omega)
        have hi1 : IntKind.i64.wrap (z.segs * z.slots) = z.segs * z.slots := IntWalk.i64_in _ (by omega)
        have hi2 : IntKind.i64.wrap (z.segs * z.slots + z.segs) = z.segs * z.slots + z.segs := IntWalk.i64_in _ (by omega)
        have hi3 : IntKind.i64.wrap (z.segs * z.slots + z.segs - 1) = z.segs * z.slots + z.segs - 1 := IntWalk.i64_in _ (by omega)
        clear hcb hSD c0 c1
        refine wp_region_ord Newer.grow [(0, true), (1, true), (2, true), (3, true), (4, true), (5, true), (6, true), (7, true), (8, true), (9, true), (10, true), (11, true), (12, true), (13, true), (14, true), (15, true)] [] (by kernel_rfl) (by kernel_rfl) rfl (by kernel_rfl) (by intro _ _ d _ _ h; cases d <;> exact h) ?_
        iterate 16
          (apply wpOrd_take
           · exact rfl
           · intro w1 h1
             (obtain ⟨c0, c1⟩ := hcell w1 h1)
             go_simp
             first
               | with_reducible exact ⟨rfl, Newer.grow.refl _⟩
               | with_reducible exact hpd _ h1 | with_reducible exact hfx _ | with_reducible exact rfl
           simp only [Act.put, List.setIfInBounds_toArray, List.set_cons_zero, List.set_cons_succ])
        refine wpOrd_done fun w12 h12 => ?_
        go_wp2_with fail
        go_ret
        exact ⟨rfl, (Sep.base hS).trans (h12.undrew.mono (Now.size hS))⟩
end Go.Proofs.YthlbciinpidedaaGreat

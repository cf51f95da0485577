/- The walk of LogGoes. -/
import Derived.Test.YthlbciinpidedaaGreatZK23
import Derived.Test.YthlbciinpidedaaGreatZFullPure
import Derived.Test.YthlbciinpidedaaGreatZOps9
import Derived.Test.YthlbciinpidedaaGreatZCopy9
namespace Go.Proofs.YthlbciinpidedaaGreat
set_option linter.unusedSimpArgs false
set_option linter.unusedVariables false
set_option maxRecDepth 100000
open Go.RowKit
attribute [local go_sem high] run_mx run_mn
attribute [local go_sem] run_store_flt
set_option maxHeartbeats 16000000 in
theorem walkLogGoes (W : World) (c : Cnf) (hc : c.Wf) (A : Option Addr) (nA cA : Nat) (xss : List (List Value)) (wl : Elems W 10 (Parts op9Form) A nA cA xss) (B : Option Addr) (nB cB : Nat) (yss : List (List Value)) (wm : Elems W 10 (Parts op9Form) B nB cB yss) :
    Calls Tryz.prog 8 #[.agg c.cells, .slice A nA cA, .slice B nB cB] W fun e w' => e = .returned (.bool true) ∧ Below W.heap.size W w' := by
  have hfx := fixed_any
  have hsm := fun v => Small_any c hc.share v
  have hsh : c.small.share < 18446744073709551616 := by rw [c.small_share]; exact hc.share
  have hmy := fun v => May_any c.small hsh v
  rw [c.small_may] at hmy
  have hS0 := Now.pushCells (Sep.start W) 24 c.cells
  have hcb := Now.blk (pre := []) hS0
  have fc := fun k => hcb.frozen k
  have c0 : _ = some (Value.int .i64 c.segs) := hcb.cell 0
  have c1 : _ = some (Value.int .i64 c.slots) := hcb.cell 1
  have c2 : _ = some (Value.float .f64 c.share) := hcb.cell 2
  have c3 : _ = some (Value.int .i64 c.rate) := hcb.cell 3
  clear hcb
  cases hm : c.may with
  | false =>
    rw [hm] at hmy
    go_enter Tryz.func8, Tryz.ntmps8
    go_wp2_with (first
      | (go_at_call 10; (with_reducible refine (hsm _).mono ?_); rintro e w1 ⟨rfl, hB⟩; have hS1 := Now.below hS0 hB; have hcb := Now.blk (pre := []) hS1; replace c0 : w1.cell? ⟨W.heap.size, 0, none⟩ = some (Value.int .i64 c.segs) := hcb.cell 0; replace c1 : w1.cell? ⟨W.heap.size, 1, none⟩ = some (Value.int .i64 c.slots) := hcb.cell 1; replace c2 : w1.cell? ⟨W.heap.size, 2, none⟩ = some (Value.float .f64 c.share) := hcb.cell 2; replace c3 : w1.cell? ⟨W.heap.size, 3, none⟩ = some (Value.int .i64 c.rate) := hcb.cell 3; replace fc := fun k => hcb.frozen k; have hS2 := Lib.hid (Now.set_ (pre := []) (Now.set_ (pre := []) (Now.set_ (pre := []) (Now.set_ (pre := []) hS1 0 (.int .i64 c.small.segs)) 1 (.int .i64 c.small.slots)) 2 (.float .f64 c.small.share)) 3 (.int .i64 c.small.rate)); clear hcb hsm hS0 hB hS1)
      | (go_at_call 11; (with_reducible refine (hmy _).mono ?_); rintro e w2 ⟨rfl, hB⟩; have hS3 := Now.below hS2.out hB; clear hmy hB hS2 c0 c1 c2 c3 fc)
      | (go_at_call 12; (with_reducible refine (hfx _).mono ?_); rintro e w3 ⟨rfl, hB⟩; have hS4 := Now.below hS3 hB; clear hB hS3))
    go_ret
    exact ⟨rfl, Sep.base hS4⟩
  | true =>
    rw [hm] at hmy
    have hzm : c.small.may = true := by rw [c.small_may]; exact hm
    obtain ⟨hg, hl⟩ := Cnf.small_in hm
    have hmade := fun v => made_ok c.small.sectors c.small hsh hzm (Int.le_refl _) (by have := sec_bound c.small.segs c.small.slots (by omega) (by omega); rw [Cnf.sectors_eq hzm]; omega) v
    have hsec := fun v => RSectors_any c.small hsh v
    have hd0 := frun_start hzm (by have := sec_bound c.small.segs c.small.slots (by omega) (by omega); rw [Cnf.sectors_eq hzm]; omega)
    go_enter Tryz.func8, Tryz.ntmps8
    go_wp2_with (first
      | (go_at_call 10; (with_reducible refine (hsm _).mono ?_); rintro e w1 ⟨rfl, hB⟩; have hS1 := Now.below hS0 hB; have hcb := Now.blk (pre := []) hS1; replace c0 : w1.cell? ⟨W.heap.size, 0, none⟩ = some (Value.int .i64 c.segs) := hcb.cell 0; replace c1 : w1.cell? ⟨W.heap.size, 1, none⟩ = some (Value.int .i64 c.slots) := hcb.cell 1; replace c2 : w1.cell? ⟨W.heap.size, 2, none⟩ = some (Value.float .f64 c.share) := hcb.cell 2; replace c3 : w1.cell? ⟨W.heap.size, 3, none⟩ = some (Value.int .i64 c.rate) := hcb.cell 3; replace fc := fun k => hcb.frozen k; have hS2 := Lib.hid (Now.set_ (pre := []) (Now.set_ (pre := []) (Now.set_ (pre := []) (Now.set_ (pre := []) hS1 0 (.int .i64 c.small.segs)) 1 (.int .i64 c.small.slots)) 2 (.float .f64 c.small.share)) 3 (.int .i64 c.small.rate)); clear hcb hsm hS0 hB hS1)
      | (go_at_call 11; (with_reducible refine (hmy _).mono ?_); rintro e w2 ⟨rfl, hB⟩; have hS3 := Now.below hS2.out hB; clear hmy hB hS2 c0 c1 c2 c3 fc))
    generalize c.small = z at *
    have hcb := Now.blk (pre := []) hS3
    have hcell : ∀ v, Newer w2.drew v → v.cell? ⟨W.heap.size, 0, none⟩ = some (Value.int .i64 z.segs) ∧ v.cell? ⟨W.heap.size, 1, none⟩ = some (Value.int .i64 z.slots) ∧ v.cell? ⟨W.heap.size, 2, none⟩ = some (Value.float .f64 z.share) ∧ v.cell? ⟨W.heap.size, 3, none⟩ = some (Value.int .i64 z.rate) := fun v hv => by
      have h1 := hcb.below hv.undrew hcb.lt
      exact ⟨h1.cell 0, h1.cell 1, h1.cell 2, h1.cell 3⟩
    have hS4 := hS3.drew
    clear hS3 hcb
    refine wp_region_ord Newer.grow [(0, true), (1, true), (2, true), (3, false), (4, true), (5, true), (6, true), (7, true), (8, true), (9, true), (10, true)] [] (by kernel_rfl) (by kernel_rfl) rfl (by kernel_rfl) (by intro _ _ d _ _ h; cases d <;> exact h) ?_
    iterate 3
      (apply wpOrd_take
       · exact rfl
       · intro w1 h1
         (obtain ⟨c0, c1, c2, c3⟩ := hcell w1 h1)
         go_simp
         first
           | with_reducible exact ⟨rfl, Newer.grow.refl _⟩
           | with_reducible exact hsec _
       simp only [Act.put, List.setIfInBounds_toArray, List.set_cons_zero, List.set_cons_succ])
    refine wpOrd_do rfl ?_
    intro w4 h4 K hK
    have hS5 := Now.below hS4 h4
    go_simp
    go_at_call 13
    refine (hmade _).mono ?_
    rintro e w5 ⟨g, gd, rfl, A1, k1, A2, k2, A3, k3, hO⟩
    refine hK _ _ (Sep.base hO) ?_
    have hS6 := Now.pushAll hS5 hO
    clear hK K hcell hS4 hS5 hO h4 hmade hsec
    try simp only [Act.put, List.setIfInBounds_toArray, List.set_cons_zero, List.set_cons_succ]
    iterate 7
      (apply wpOrd_take
       · exact rfl
       · intro w1 h1
         (skip)
         go_simp
         first
           | with_reducible exact ⟨rfl, Newer.grow.refl _⟩
       simp only [Act.put, List.setIfInBounds_toArray, List.set_cons_zero, List.set_cons_succ])
    refine wpOrd_done fun w6 h6 => ?_
    have hS7 := Now.below hS6 h6
    clear hS6 h6
    have hS : Now (fun _ => False) W w6 ((startS z).parts g gd 1 A1 k1 A2 k2 A3 k3 ++ [Thing.cells W.heap.size 24 z.cells]) := hS7
    have HD := Lib.hid (hd0.run.fine 70 (by decide))
    have hcap := wl.cap
    have hle := wl.le
    have hcapB := wm.cap
    have hleB := wm.le
    unfold maxLen at hcap hcapB
    clear hd0 hS7
    generalize startS z = s0 at hS HD
    go_wp2_with fail
    replace hS := Lib.hid hS
    go_loopw [10] (fun vi wr => ∃ (k : Nat) (s : LSt) (A1 : Option Addr) (k1 : Nat) (A2 : Option Addr) (k2 : Nat) (A3 : Option Addr) (k3 : Nat), vi = .int .i64 k ∧ k ≤ nA ∧ k ≤ 40 ∧ Hid (s.Fine (70 - k)) ∧ Hid (Now (fun _ => False) W wr (s.parts g gd 1 A1 k1 A2 k2 A3 k3 ++ [Thing.cells W.heap.size 24 z.cells]))) (fun vi _ => 41 - (intOf vi).toNat)
    case atStart => exact ⟨0, s0, A1, k1, A2, k2, A3, k3, rfl, by omega, by omega, HD, hS⟩
    case round =>
      clear hS HD
      obtain ⟨k, s, A1, k1, A2, k2, A3, k3, rfl, hk, hk40, hD, hS⟩ := hrel
      replace hS := hS.out
      by_cases hlt : k < nA ∧ k < 40
      · obtain ⟨hlt, hlt2⟩ := hlt
        have hltI : (k : Int) < (nA : Int) := by omega
        have hltJ : (k : Int) < 40 := by omega
        obtain ⟨ad, x, rfl, hb, hx, _, hc10⟩ := wl.get hlt
        obtain ⟨o, rfl, ho⟩ := op9_form hx
        obtain ⟨x0, x1, x2, x3, x4, x5, x6, x7, x8, x9⟩ := op10 hS hb hc10
        have hmul : IntKind.i64.wrap ((k : Int) * 10) = (k : Int) * 10 := IntWalk.i64_in _ (by omega)
        obtain ⟨ν, hν⟩ : ∃ ν, 70 - k = ν + 1 := ⟨69 - k, by omega⟩
        have hact := fun v (h : Now (fun _ => False) W v (s.parts g gd 1 A1 k1 A2 k2 A3 k3 ++ [Thing.cells W.heap.size 24 z.cells])) => Act_any (k := ν) (hν ▸ hD.out) g gd 1 (by decide) o ho A1 k1 A2 k2 A3 k3 h
        have hD2 : Hid ((s.act 1 o).2.2.2.Fine (70 - (k + 1))) := Lib.hid (by rw [show 70 - (k + 1) = ν by omega]; exact LSt.Fine.act (hν ▸ hD.out) 1 o)
        clear wl wm hx hc10 hb hν hD ho
        go_wp2_with (go_at_call 37; have h' := hact _ hS; clear hact hS x0 x1 x2 x3 x4 x5 x6 x7 x8 x9; (with_reducible refine h'.mono ?_); clear h'; rintro e w7 ⟨rfl, D1, d1, D2, d2, D3, d3, hS⟩)
        go_roundw
        case rel => exact ⟨k + 1, _, D1, d1, D2, d2, D3, d3, by go_num, by omega, by omega, hD2, Lib.hid hS⟩
        case measure => simp [intOf] <;> omega
      · have hgd : ((k : Int) < (nA : Int) ∧ ¬ (k : Int) < 40) ∨ ¬ (k : Int) < (nA : Int) := by omega
        have hfine : s.Fine 28 := by
          have h0 := hD.out
          exact ⟨h0.t, by have := h0.lsn; omega, by have := h0.gen; omega, by have := h0.pend; omega⟩
        have hok := hfine.ok
        obtain ⟨t1, t2, t3, rfl, rfl, rfl⟩ := somes hok.t hS
        have hpd : s.d.pend.length ≤ 1000000000 := Nat.le_trans hok.pend (by decide)
        have hcp := fun w S (h : (dskT gd s.d).is w S) => Copy_any gd s.d w S h hpd
        have htb := fun X v (h : Now (fun _ => False) W v (s.parts g gd 1 (some t1) k1 (some t2) k2 (some t3) k3 ++ X)) => Table_any g gd s.T hok.t t1 k1 t2 k2 t3 k3 s.lsn 1 s.gen v (Now.blk (pre := []) h) (tabIn_of (pre := [_]) h)
        have HF := Lib.hid hfine
        clear hfine hok hD hlt wl hpd hcap hle
        rcases hgd with ⟨g1, g2⟩ | g1
        all_goals
          go_wp2_with (first
            | (go_at_call 38; obtain ⟨SD, hSD⟩ := Now.get (pre := [_, _, _, _]) hS; (with_reducible refine (hcp _ _ hSD).mono ?_); clear hcp hSD; rintro e w8 ⟨gx, rfl, hB, SX, hX, hnX⟩; replace hS := Now.perm (Now.push hS hB hX hnX) List.perm_middle.symm; clear hB hX hnX)
            | (go_at_call 23; have h' := htb _ _ hS; (with_reducible refine h'.mono ?_); clear h' htb; rintro e w9 ⟨C1, m1, C2, m2, C3, m3, rfl, hO⟩; replace hS := Now.perm (Now.pushAll hS hO) (List.perm_append_comm_assoc [_, _, _] (s.parts g gd 1 (some t1) k1 (some t2) k2 (some t3) k3) [dskT gx s.d, Thing.cells W.heap.size 24 z.cells]); clear hO)
            | (go_at_call 20; (with_reducible refine (LSN_any g gd s.T (some t1) k1 (some t2) k2 (some t3) k3 s.lsn 1 s.gen _ (Now.blk (pre := []) hS)).mono ?_); rintro e w10 ⟨rfl, rfl⟩)
            | (go_at_call 40; (with_reducible refine (Epoch_any g gd s.T (some t1) k1 (some t2) k2 (some t3) k3 s.lsn 1 s.gen _ (Now.blk (pre := []) hS)).mono ?_); rintro e w10 ⟨rfl, rfl⟩)
            | (go_at_call 41; (with_reducible refine (Gen_any g gd s.T (some t1) k1 (some t2) k2 (some t3) k3 s.lsn 1 s.gen _ (Now.blk (pre := []) hS)).mono ?_); rintro e w10 ⟨rfl, rfl⟩)
            | (go_at_call 39; (with_reducible refine (At_any gx s.T C1 m1 C2 m2 C3 m3 s.lsn 1 s.gen _).mono ?_); rintro e w11 ⟨b, rfl, hO⟩; replace hS : Now (fun _ => False) W w11 (s.parts g gd 1 (some t1) k1 (some t2) k2 (some t3) k3 ++ (s.parts b gx 1 C1 m1 C2 m2 C3 m3 ++ [Thing.cells W.heap.size 24 z.cells])) := Now.perm (Now.pushAll hS hO) (List.perm_middle (l₁ := s.parts g gd 1 (some t1) k1 (some t2) k2 (some t3) k3)).symm; clear hO))
          have HS := Lib.hid hS
          have HM := Lib.hid wm
          clear hS wm
          go_loopw [13] (fun vi wr => ∃ (k : Nat) (s : LSt) (A1 : Option Addr) (k1 : Nat) (A2 : Option Addr) (k2 : Nat) (A3 : Option Addr) (k3 : Nat) (B1 : Option Addr) (j1 : Nat) (B2 : Option Addr) (j2 : Nat) (B3 : Option Addr) (j3 : Nat), vi = .int .i64 k ∧ k ≤ nB ∧ k ≤ 20 ∧ Hid (s.Fine (28 - k)) ∧ Hid (Now (fun _ => False) W wr (s.parts g gd 1 A1 k1 A2 k2 A3 k3 ++ (s.parts b gx 1 B1 j1 B2 j2 B3 j3 ++ [Thing.cells W.heap.size 24 z.cells])))) (fun vi _ => 41 - (intOf vi).toNat)
          case atStart => exact ⟨0, s, _, _, _, _, _, _, _, _, _, _, _, _, rfl, by omega, by omega, HF, HS⟩
          case round =>
            clear HS HF
            obtain ⟨k, s, A1, k1, A2, k2, A3, k3, B1, j1, B2, j2, B3, j3, rfl, hk, hk20, hD, hS⟩ := hrel
            replace hS := hS.out
            by_cases hlt : k < nB ∧ k < 20
            · obtain ⟨hlt, hlt2⟩ := hlt
              have hltI : (k : Int) < (nB : Int) := by omega
              have hltJ : (k : Int) < 20 := by omega
              obtain ⟨ad, x, rfl, hb, hx, _, hc10⟩ := HM.out.get hlt
              obtain ⟨o, rfl, ho⟩ := op9_form hx
              have hrdop := fun v L (h : Sep W v L) => op10 h hb hc10
              obtain ⟨x0, x1, x2, x3, x4, x5, x6, x7, x8, x9⟩ := hrdop _ _ hS
              have hmul : IntKind.i64.wrap ((k : Int) * 10) = (k : Int) * 10 := IntWalk.i64_in _ (by omega)
              obtain ⟨ν, hν⟩ : ∃ ν, 28 - k = ν + 1 := ⟨27 - k, by omega⟩
              have hacta := fun X v (h : Now (fun _ => False) W v (s.parts g gd 1 A1 k1 A2 k2 A3 k3 ++ X)) => Act_any (k := ν) (hν ▸ hD.out) g gd 1 (by decide) o ho A1 k1 A2 k2 A3 k3 h
              have hactb := fun X v (h : Now (fun _ => False) W v (s.parts b gx 1 B1 j1 B2 j2 B3 j3 ++ X)) => Act_any (k := ν) (hν ▸ hD.out) b gx 1 (by decide) o ho B1 j1 B2 j2 B3 j3 h
              have hf2 : (s.act 1 o).2.2.2.Fine ν := LSt.Fine.act (hν ▸ hD.out) 1 o
              obtain ⟨ae, ag, asl, s', hans⟩ : ∃ ae ag asl s', s.act 1 o = (ae, ag, asl, s') := ⟨_, _, _, _, rfl⟩
              simp only [hans] at hacta hactb hf2
              have hok2 : s'.T.Ok := hf2.t
              have hD2 : Hid (s'.Fine (28 - (k + 1))) := Lib.hid (by rw [show 28 - (k + 1) = ν by omega]; exact hf2)
              have hrf := fun C1 m1 C2 m2 C3 m3 v => LRef_any s'.T C1 m1 C2 m2 C3 m3 v
              clear hx hc10 hb hν hD ho hans hf2
              go_wp2_with (first
                | (go_at_call 37; have h' := hacta _ _ hS; (with_reducible refine h'.mono ?_); clear h' hacta hS x0 x1 x2 x3 x4 x5 x6 x7 x8 x9; rintro e w7 ⟨rfl, D1, d1, D2, d2, D3, d3, hS⟩; obtain ⟨p1, p2, p3, rfl, rfl, rfl⟩ := somes hok2 hS; replace hS := Now.pushCells hS 36 #[.int .i64 ag, .int .i64 asl]; obtain ⟨x0, x1, x2, x3, x4, x5, x6, x7, x8, x9⟩ := hrdop _ _ hS; replace hS := Now.perm hS (List.perm_append_comm_assoc (Thing.cells w7.heap.size 36 #[.int .i64 ag, .int .i64 asl] :: s'.parts g gd 1 (some p1) d1 (some p2) d2 (some p3) d3) (s.parts b gx 1 B1 j1 B2 j2 B3 j3) [Thing.cells W.heap.size 24 z.cells]))
                | (go_at_call 37; have h' := hactb _ _ hS; (with_reducible refine h'.mono ?_); clear h' hactb hS x0 x1 x2 x3 x4 x5 x6 x7 x8 x9; rintro e w8 ⟨rfl, E1, e1, E2, e2, E3, e3, hS⟩; obtain ⟨q1, q2, q3, rfl, rfl, rfl⟩ := somes hok2 hS; replace hS := Now.pushCells (Now.perm hS (List.perm_append_comm_assoc (s'.parts b gx 1 (some q1) e1 (some q2) e2 (some q3) e3) (Thing.cells w7.heap.size 36 #[.int .i64 ag, .int .i64 asl] :: s'.parts g gd 1 (some p1) d1 (some p2) d2 (some p3) d3) [Thing.cells W.heap.size 24 z.cells])) 36 #[.int .i64 ag, .int .i64 asl]; have hcb := Now.blk (pre := [_]) hS; have l0 : _ = some (Value.int .i64 ag) := hcb.cell 0; have l1 : _ = some (Value.int .i64 asl) := hcb.cell 1; clear hcb)
                | (go_at_call 20; (with_reducible refine (LSN_any g gd s'.T (some p1) d1 (some p2) d2 (some p3) d3 s'.lsn 1 s'.gen _ (Now.blk (pre := [_, _]) hS)).mono ?_); rintro e w10 ⟨rfl, rfl⟩)
                | (go_at_call 20; (with_reducible refine (LSN_any b gx s'.T (some q1) e1 (some q2) e2 (some q3) e3 s'.lsn 1 s'.gen _ (Now.blk (pre := [_, _, _, _, _, _, _]) hS)).mono ?_); rintro e w10 ⟨rfl, rfl⟩)
                | (go_at_call 41; (with_reducible refine (Gen_any g gd s'.T (some p1) d1 (some p2) d2 (some p3) d3 s'.lsn 1 s'.gen _ (Now.blk (pre := [_, _]) hS)).mono ?_); rintro e w10 ⟨rfl, rfl⟩)
                | (go_at_call 41; (with_reducible refine (Gen_any b gx s'.T (some q1) e1 (some q2) e2 (some q3) e3 s'.lsn 1 s'.gen _ (Now.blk (pre := [_, _, _, _, _, _, _]) hS)).mono ?_); rintro e w10 ⟨rfl, rfl⟩)
                | (go_at_call 23; (with_reducible refine (Table_any g gd s'.T hok2 p1 d1 p2 d2 p3 d3 s'.lsn 1 s'.gen _ (Now.blk (pre := [_, _]) hS) (tabIn_of (pre := [_, _, _]) hS)).mono ?_); rintro e w11 ⟨C1, m1, C2, m2, C3, m3, rfl, hO⟩; replace hS := Now.pushAll hS hO; clear hO)
                | (go_at_call 23; (with_reducible refine (Table_any b gx s'.T hok2 q1 e1 q2 e2 q3 e3 s'.lsn 1 s'.gen _ (Now.blk (pre := [_, _, _, _, _, _, _, _, _, _]) hS) (tabIn_of (pre := [_, _, _, _, _, _, _, _, _, _, _]) hS)).mono ?_); rintro e w12 ⟨F1, n1, F2, n2, F3, n3, rfl, hO⟩; replace hS := Now.pushAll hS hO; clear hO)
                | (go_at_call 26; (with_reducible refine (hrf _ _ _ _ _ _ _).mono ?_); rintro e w13 ⟨rfl, hB⟩; replace hS := Now.below hS hB; clear hB)
                | (go_at_call 42; have h' := Same_yes s'.T hok2.short C1 C2 C3 F1 F2 F3 m1 m2 m3 n1 n2 n3 _ (tabIn_of (pre := [_, _, _]) hS) (tabIn_of (pre := []) hS); (with_reducible refine h'.mono ?_); clear h'; rintro e w14 ⟨rfl, hB⟩; replace hS := Now.below hS hB; clear hB))
              go_roundw
              case rel => exact ⟨k + 1, s', _, _, _, _, _, _, _, _, _, _, _, _, by go_num, by omega, by omega, hD2, Lib.hid (Now.drop (pre := []) (Now.drop (pre := []) (Now.drop (pre := []) (Now.drop (pre := []) (Now.drop (pre := []) (Now.drop (pre := []) (Now.drop (pre := []) (Now.drop (pre := []) hS))))))))⟩
              case measure => simp [intOf] <;> omega
            · have hgd : ((k : Int) < (nB : Int) ∧ ¬ (k : Int) < 20) ∨ ¬ (k : Int) < (nB : Int) := by omega
              have hsb : 2 ≤ z.sectors ∧ z.sectors ≤ 4096 := by have := sec_bound z.segs z.slots (by omega) (by omega); rw [Cnf.sectors_eq hzm]; omega
              have hpd : s.d.pend.length ≤ 1000000000 := by have := hD.out.pend; omega
              have hsec := fun v => RSectors_any z hsh v
              have HQ := Lib.hid hgd
              clear hD hgd HM
              rcases HQ.out with ⟨g1, g2⟩ | g1
              all_goals
                go_wp2_with fail
                go_loopw [18] (fun vi wr => ∃ (i : Nat), vi = .int .i64 i ∧ (i : Int) ≤ z.sectors ∧ Hid (Now (fun _ => False) W wr (s.parts g gd 1 A1 k1 A2 k2 A3 k3 ++ (s.parts b gx 1 B1 j1 B2 j2 B3 j3 ++ [Thing.cells W.heap.size 24 z.cells])))) (fun vi _ => 5000 - (intOf vi).toNat)
                case atStart => exact ⟨0, rfl, by omega, Lib.hid hS⟩
                case round =>
                  clear hS
                  obtain ⟨i, rfl, hi, hS⟩ := hrel
                  replace hS := hS.out
                  have hcb := Now.blk (pre := [_, _, _, _, _, _, _, _, _, _]) hS
                  have c0 : wr.cell? ⟨W.heap.size, 0, none⟩ = some (Value.int .i64 z.segs) := hcb.cell 0
                  have c1 : wr.cell? ⟨W.heap.size, 1, none⟩ = some (Value.int .i64 z.slots) := hcb.cell 1
                  have c2 : wr.cell? ⟨W.heap.size, 2, none⟩ = some (Value.float .f64 z.share) := hcb.cell 2
                  have c3 : wr.cell? ⟨W.heap.size, 3, none⟩ = some (Value.int .i64 z.rate) := hcb.cell 3
                  clear hcb
                  by_cases hlt3 : (i : Int) < z.sectors
                  · have hra := LRead gd s.d (i : Int) hpd
                    have hrx := LRead gx s.d (i : Int) hpd
                    generalize s.d.readV (i : Int) = rv at hra hrx
                    generalize s.d.readE (i : Int) = rx at hra hrx
                    go_wp2_with (first
                      | (go_at_call 14; (with_reducible refine (hsec _).mono ?_); rintro e w15 ⟨rfl, hB⟩; replace hS := Now.below hS hB; clear hB hsec c0 c1 c2 c3)
                      | (have _g := hra; go_at_call 43; have h' := Loc.atZ hra [_, _, _, _] _ hS; clear hra hS _g; (with_reducible refine h'.mono ?_); clear h'; rintro e w16 ⟨rfl, _, hS⟩)
                      | (go_at_call 43; have h' := Loc.atZ hrx [_, _, _, _, _, _, _, _, _] _ hS; clear hrx hS; (with_reducible refine h'.mono ?_); clear h'; rintro e w17 ⟨rfl, _, hS⟩))
                    go_roundw
                    case rel => exact ⟨i + 1, by go_num, by omega, Lib.hid hS⟩
                    case measure => simp [intOf] <;> omega
                  · go_wp2_with (first
                      | (go_at_call 14; (with_reducible refine (hsec _).mono ?_); rintro e w15 ⟨rfl, hB⟩; replace hS := Now.below hS hB; clear hB hsec c0 c1 c2 c3)
                      | (go_at_call 40; (with_reducible refine (Epoch_any g gd s.T A1 k1 A2 k2 A3 k3 s.lsn 1 s.gen _ (Now.blk (pre := []) hS)).mono ?_); rintro e w10 ⟨rfl, rfl⟩)
                      | (go_at_call 40; (with_reducible refine (Epoch_any b gx s.T B1 j1 B2 j2 B3 j3 s.lsn 1 s.gen _ (Now.blk (pre := [_, _, _, _, _]) hS)).mono ?_); rintro e w10 ⟨rfl, rfl⟩)
                      | (go_at_call 12; (with_reducible refine (hfx _).mono ?_); rintro e w22 ⟨rfl, hB⟩; replace hS := Now.below hS hB; clear hB))
                    go_ret
                    exact ⟨rfl, Sep.base hS⟩
end Go.Proofs.YthlbciinpidedaaGreat

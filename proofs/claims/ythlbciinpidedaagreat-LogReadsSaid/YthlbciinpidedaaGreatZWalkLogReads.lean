/- The walk of LogReads. -/
import Derived.Test.YthlbciinpidedaaGreatZK23
import Derived.Test.YthlbciinpidedaaGreatZReadsPure
import Derived.Test.YthlbciinpidedaaGreatZRecs9
import Derived.Test.YthlbciinpidedaaGreatZK12
namespace Go.Proofs.YthlbciinpidedaaGreat
set_option linter.unusedSimpArgs false
set_option linter.unusedVariables false
set_option maxRecDepth 100000
open Go.RowKit
attribute [local go_sem high] run_mx run_mn
attribute [local go_sem] run_store_flt
theorem infoLoc9 : (Tryz.prog.info? 36).map (fun i => (i.zero, i.size, i.bytes)) = some (some (.agg #[.int .i64 0, .int .i64 0]), 2, 16) := by kernel_rfl
theorem infoRec9 : (Tryz.prog.info? 42).map (fun i => (i.zero, i.size, i.bytes)) = some (some (.agg #[.int .u64 0, .int .u32 0, .int .i64 0, .int .u64 0, .int .u64 0, .string ⟨#[]⟩, .string ⟨#[]⟩]), 7, 72) := by kernel_rfl
set_option maxHeartbeats 16000000 in
theorem walkLogReads (W : World) (c : Cnf) (hc : c.Wf) (A : Option Addr) (nA cA : Nat) (xss : List (List Value)) (wl : Elems W 7 (Parts recForm) A nA cA xss) :
    Calls Tryz.prog 7 #[.agg c.cells, .slice A nA cA] W fun e w' => e = .returned (.bool true) ∧ Below W.heap.size W w' := by
  have hfx := fixed_any
  have hsm := fun v => Small_any c hc.share v
  have hsh : c.small.share < 18446744073709551616 := by rw [c.small_share]; exact hc.share
  have hmy := fun v => May_any c.small hsh v
  rw [c.small_may] at hmy
  have hS0 := Now.pushCells (Sep.start W) 24 c.cells
  have hcb := Now.blk (pre := []) hS0
  have fc := fun k => hcb.frozen k
  have c0 : _ = some (Value.int .i64 c.segs) := hcb.cell 0
  have c1 : _ = some (Value.int .i64 c.slots) := hcb.cell 1
  have c2 : _ = some (Value.float .f64 c.share) := hcb.cell 2
  have c3 : _ = some (Value.int .i64 c.rate) := hcb.cell 3
  clear hcb
  cases hm : c.may with
  | false =>
    rw [hm] at hmy
    go_enter Tryz.func7, Tryz.ntmps7
    go_wp2_with (first
      | (go_at_call 10; (with_reducible refine (hsm _).mono ?_); rintro e w1 ⟨rfl, hB⟩; have hS1 := Now.below hS0 hB; have hcb := Now.blk (pre := []) hS1; replace c0 : w1.cell? ⟨W.heap.size, 0, none⟩ = some (Value.int .i64 c.segs) := hcb.cell 0; replace c1 : w1.cell? ⟨W.heap.size, 1, none⟩ = some (Value.int .i64 c.slots) := hcb.cell 1; replace c2 : w1.cell? ⟨W.heap.size, 2, none⟩ = some (Value.float .f64 c.share) := hcb.cell 2; replace c3 : w1.cell? ⟨W.heap.size, 3, none⟩ = some (Value.int .i64 c.rate) := hcb.cell 3; replace fc := fun k => hcb.frozen k; have hS2 := Lib.hid (Now.set_ (pre := []) (Now.set_ (pre := []) (Now.set_ (pre := []) (Now.set_ (pre := []) hS1 0 (.int .i64 c.small.segs)) 1 (.int .i64 c.small.slots)) 2 (.float .f64 c.small.share)) 3 (.int .i64 c.small.rate)); clear hcb hsm hS0 hB hS1)
      | (go_at_call 11; (with_reducible refine (hmy _).mono ?_); rintro e w2 ⟨rfl, hB⟩; have hS3 := Now.below hS2.out hB; clear hmy hB hS2 c0 c1 c2 c3 fc)
      | (go_at_call 12; (with_reducible refine (hfx _).mono ?_); rintro e w3 ⟨rfl, hB⟩; have hS4 := Now.below hS3 hB; clear hB hS3))
    go_ret
    exact ⟨rfl, Sep.base hS4⟩
  | true =>
    rw [hm] at hmy
    have hzm : c.small.may = true := by rw [c.small_may]; exact hm
    obtain ⟨hg, hl⟩ := Cnf.small_in hm
    have hmade := fun v => made_ok c.small.sectors c.small hsh hzm (Int.le_refl _) (by have := sec_bound c.small.segs c.small.slots (by omega) (by omega); rw [Cnf.sectors_eq hzm]; omega) v
    have hsec := fun v => RSectors_any c.small hsh v
    have hd0 := rrun_start hzm (by have := sec_bound c.small.segs c.small.slots (by omega) (by omega); rw [Cnf.sectors_eq hzm]; omega)
    go_enter Tryz.func7, Tryz.ntmps7
    go_wp2_with (first
      | (go_at_call 10; (with_reducible refine (hsm _).mono ?_); rintro e w1 ⟨rfl, hB⟩; have hS1 := Now.below hS0 hB; have hcb := Now.blk (pre := []) hS1; replace c0 : w1.cell? ⟨W.heap.size, 0, none⟩ = some (Value.int .i64 c.segs) := hcb.cell 0; replace c1 : w1.cell? ⟨W.heap.size, 1, none⟩ = some (Value.int .i64 c.slots) := hcb.cell 1; replace c2 : w1.cell? ⟨W.heap.size, 2, none⟩ = some (Value.float .f64 c.share) := hcb.cell 2; replace c3 : w1.cell? ⟨W.heap.size, 3, none⟩ = some (Value.int .i64 c.rate) := hcb.cell 3; replace fc := fun k => hcb.frozen k; have hS2 := Lib.hid (Now.set_ (pre := []) (Now.set_ (pre := []) (Now.set_ (pre := []) (Now.set_ (pre := []) hS1 0 (.int .i64 c.small.segs)) 1 (.int .i64 c.small.slots)) 2 (.float .f64 c.small.share)) 3 (.int .i64 c.small.rate)); clear hcb hsm hS0 hB hS1)
      | (go_at_call 11; (with_reducible refine (hmy _).mono ?_); rintro e w2 ⟨rfl, hB⟩; have hS3 := Now.below hS2.out hB; clear hmy hB hS2 c0 c1 c2 c3 fc))
    generalize c.small = z at *
    have hcb := Now.blk (pre := []) hS3
    have hcell : ∀ v, Newer w2.drew v → v.cell? ⟨W.heap.size, 0, none⟩ = some (Value.int .i64 z.segs) ∧ v.cell? ⟨W.heap.size, 1, none⟩ = some (Value.int .i64 z.slots) ∧ v.cell? ⟨W.heap.size, 2, none⟩ = some (Value.float .f64 z.share) ∧ v.cell? ⟨W.heap.size, 3, none⟩ = some (Value.int .i64 z.rate) := fun v hv => by
      have h1 := hcb.below hv.undrew hcb.lt
      exact ⟨h1.cell 0, h1.cell 1, h1.cell 2, h1.cell 3⟩
    have hS4 := hS3.drew
    clear hS3 hcb
    refine wp_region_ord Newer.grow [(0, true), (1, true), (2, true), (3, false), (4, true), (5, true), (6, true), (7, true), (8, true), (9, true), (10, true)] [] (by kernel_rfl) (by kernel_rfl) rfl (by kernel_rfl) (by intro _ _ d _ _ h; cases d <;> exact h) ?_
    iterate 3
      (apply wpOrd_take
       · exact rfl
       · intro w1 h1
         (obtain ⟨c0, c1, c2, c3⟩ := hcell w1 h1)
         go_simp
         first
           | with_reducible exact ⟨rfl, Newer.grow.refl _⟩
           | with_reducible exact hsec _
       simp only [Act.put, List.setIfInBounds_toArray, List.set_cons_zero, List.set_cons_succ])
    refine wpOrd_do rfl ?_
    intro w4 h4 K hK
    have hS5 := Now.below hS4 h4
    go_simp
    go_at_call 13
    refine (hmade _).mono ?_
    rintro e w5 ⟨g, gd, rfl, A1, k1, A2, k2, A3, k3, hO⟩
    refine hK _ _ (Sep.base hO) ?_
    have hS6 := Now.pushAll hS5 hO
    clear hK K hcell hS4 hS5 hO h4 hmade hsec
    try simp only [Act.put, List.setIfInBounds_toArray, List.set_cons_zero, List.set_cons_succ]
    iterate 7
      (apply wpOrd_take
       · exact rfl
       · intro w1 h1
         (skip)
         go_simp
         first
           | with_reducible exact ⟨rfl, Newer.grow.refl _⟩
       simp only [Act.put, List.setIfInBounds_toArray, List.set_cons_zero, List.set_cons_succ])
    refine wpOrd_done fun w6 h6 => ?_
    have hS7 := Now.below hS6 h6
    clear hS6 h6
    have hS : Now (fun _ => False) W w6 ((startS z).parts g gd 1 A1 k1 A2 k2 A3 k3 ++ [Thing.cells W.heap.size 24 z.cells]) := hS7
    have HD := Lib.hid hd0
    have hcap := wl.cap
    unfold maxLen at hcap
    have hle := wl.le
    clear hd0 hS7
    generalize startS z = s0 at hS HD
    have hzs : z.segs * z.slots ≤ 30 := Int.le_trans (Int.mul_le_mul hg.2 hl.2 (by omega) (by omega)) (by decide)
    have hfl : ∀ r : Rec, r.Fits → r.cut.Fits := fun r h => Rec.cut_fits h
    go_wp2_with fail
    replace hS := Now.pushRowS (Now.pushRowS hS 36 2 #[] 0 (Nat.zero_le _) rfl) 42 7 #[] 0 (Nat.zero_le _) rfl
    replace hS := Lib.hid hS
    have hS := hS.out
    obtain ⟨il, hil0, hil1, hil2, hil3⟩ := info_parts infoLoc9
    obtain ⟨ir, hir0, hir1, hir2, hir3⟩ := info_parts infoRec9
    replace hS : Now (fun _ => False) W _ (s0.parts g gd 1 A1 k1 A2 k2 A3 k3 ++ [_, _, Thing.cells W.heap.size 24 z.cells]) := Now.perm hS ((List.perm_append_comm_assoc [_, _] (s0.parts g gd 1 A1 k1 A2 k2 A3 k3) [Thing.cells W.heap.size 24 z.cells]))
    replace hS := Lib.hid hS
    go_loopw [8, 9, 11] (fun va vb vi wr => ∃ (k q r m : Nat) (s : LSt) (E : List Ent) (A1 : Option Addr) (k1 : Nat) (A2 : Option Addr) (k2 : Nat) (A3 : Option Addr) (k3 : Nat) (B1 : Option Addr) (j1 : Nat) (B2 : Option Addr) (j2 : Nat), vi = .int .i64 k ∧ k ≤ nA ∧ k ≤ 60 ∧ va = .slice B1 E.length j1 ∧ vb = .slice B2 E.length j2 ∧ m ≤ 2 * k ∧ Hid (RRun z q r m s E) ∧ Hid (Now (fun _ => False) W wr (s.parts g gd 1 A1 k1 A2 k2 A3 k3 ++ [Thing.row 42 7 (.slice B2 E.length j2) E.length (whatC E), Thing.row 36 2 (.slice B1 E.length j1) E.length (locC E), Thing.cells W.heap.size 24 z.cells]))) (fun _ _ vi _ => 61 - (intOf vi).toNat)
    case atStart => exact ⟨0, 0, 0, 0, s0, [], A1, k1, A2, k2, A3, k3, _, _, _, _, rfl, by omega, by omega, rfl, rfl, by omega, HD, Lib.hid (by have h1 := hS.out; simp only [World.size_alloc] at h1; exact h1)⟩
    case round =>
      clear hS HD
      obtain ⟨k, q, r, m, s, E, A1, k1, A2, k2, A3, k3, B1, j1, B2, j2, rfl, hk, hk60, rfl, rfl, hm, hD, hS⟩ := hrel
      replace hS := hS.out
      by_cases hlt : k < nA ∧ k < 60
      · obtain ⟨hlt, hlt2⟩ := hlt
        have hltI : (k : Int) < (nA : Int) := by omega
        have hltJ : (k : Int) < 60 := by omega
        obtain ⟨ad, x, rfl, hb, hx, _, hc7⟩ := wl.get hlt
        obtain ⟨rr, hrv, hfit⟩ := rec_form hx
        obtain ⟨x0, x1, x2, x3, x4, x5, x6⟩ := rec7 hS hb hc7 hrv
        have hcf := hfl rr hfit
        have hmul : IntKind.i64.wrap ((k : Int) * 7) = (k : Int) * 7 := IntWalk.i64_in _ (by omega)
        have hok := hD.out.f.g.ok (by omega)
        have hsok := hD.out.f.g.sealOk (by omega) 1
        have hmany := hD.out.many hzs
        obtain ⟨ae, ag, asl, qz, rz, mz, s2, E2, hap0, hm2, hD2, hcase⟩ := hD.out.step (by omega) rr.cut hcf
        have hF : (s.recOf 1 rr.cut).Fits := ⟨by show 0 ≤ s.lsn ∧ s.lsn < _; have := hok.lsn; omega, by show (0 : Int) ≤ 1 ∧ (1 : Int) < _; omega, hcf.kind, hcf.ver, hcf.dl, hcf.id, hcf.val⟩
        have hcut := fun v => Cut_any rr v
        have href := fun v => Ref_any rr.cut v
        have hrr := fun v => RRight_any ({ rr.cut with lsn := 1 } : Rec) ⟨by show (0 : Int) ≤ 1 ∧ (1 : Int) < _; omega, hcf.epoch, hcf.kind, hcf.ver, hcf.dl, hcf.id, hcf.val⟩ v
        unfold Rec.value at hcut href hrr
        have hap : ∀ X v, Now (fun _ => False) W v (s.parts g gd 1 A1 k1 A2 k2 A3 k3 ++ X) → Calls Tryz.prog 16 #[.pointer (some ⟨g, 0, none⟩), .agg #[.int .u64 rr.cut.lsn, .int .u32 rr.cut.epoch, .int .i64 rr.cut.kind, .int .u64 rr.cut.ver, .int .u64 rr.cut.dl, .string rr.cut.id, .string rr.cut.val]] v fun e w' => e = .returned (.tuple #[.agg #[.int .i64 ag, .int .i64 asl], .int .i64 ae]) ∧ GotLog (fun _ => False) W w' s2 g gd 1 X := fun X v h => by
          have h1 := Append_any s hok hsok g gd (by decide) rr.cut hF A1 k1 A2 k2 A3 k3 h
          rw [hap0] at h1
          exact h1
        have hpos := hok.t.pos
        have hll := hok.t.len
        have hfs := hok.t.fst
        obtain ⟨y1, hy1⟩ : ∃ y, s.T.order[0]? = some y := ⟨_, List.getElem?_eq_getElem (by omega)⟩
        obtain ⟨y2, hy2⟩ : ∃ y, s.T.lens[0]? = some y := ⟨_, List.getElem?_eq_getElem (by omega)⟩
        obtain ⟨y3, hy3⟩ : ∃ y, s.T.firsts[0]? = some y := ⟨_, List.getElem?_eq_getElem (by omega)⟩
        obtain ⟨t1, rfl, _, _⟩ := read_cell (k := 0) (u := .int .i64 y1) (Reads.of_own (Now.row (pre := [_]) hS)) (show 0 < s.T.order.length by omega) (by rw [List.getElem?_map, hy1]; rfl)
        obtain ⟨t2, rfl, _, _⟩ := read_cell (k := 0) (u := .int .i64 y2) (Reads.of_own (Now.row (pre := [_, _]) hS)) (show 0 < s.T.lens.length by omega) (by rw [List.getElem?_map, hy2]; rfl)
        obtain ⟨t3, rfl, _, _⟩ := read_cell (k := 0) (u := .int .u64 y3) (Reads.of_own (Now.row (pre := [_, _, _]) hS)) (show 0 < s.T.firsts.length by omega) (by rw [List.getElem?_map, hy3]; rfl)
        have htb := fun X v (h : Now (fun _ => False) W v (s.parts g gd 1 (some t1) k1 (some t2) k2 (some t3) k3 ++ X)) => Table_any g gd s.T hok.t t1 k1 t2 k2 t3 k3 s.lsn 1 s.gen v (Now.blk (pre := []) h) (tabIn_of (pre := [_]) h)
        have hrm := fun C1 m1 C2 m2 C3 m3 v (h : TabIn v v.heap.size s.T C1 C2 C3) => Room_tab s.T hok.t C1 m1 C2 m2 C3 m3 v v.heap.size (Nat.le_refl _) h
        have hE31 : E.length + 1 ≤ maxLen := by unfold maxLen; omega
        have hE32 : (E.length + 1) * 16 ≤ 140737488355328 := by omega
        have hE33 : (E.length + 1) * 72 ≤ 140737488355328 := by omega
        generalize rr.cut = rc at *
        obtain ⟨rl, re, rk, rv, rd, ri, rw_⟩ := rc
        dsimp only at hcut href hrr hap hcase
        have HD2 := Lib.hid hD2
        clear hy1 hy2 hy3 hpos hll hfs hok hsok hF hcf hD hD2 hap0 wl hx hrv hfit hc7 hb hfl
        rcases hcase with ⟨rfl, rfl⟩ | ⟨rfl, rfl⟩ | ⟨rfl, ⟨hk3, hrt, hr0⟩, en, rfl, hes, hel, her⟩
        · go_wp2_with (first
            | (go_at_call 32; (with_reducible refine (hcut _).mono ?_); rintro e w7 ⟨rfl, hB⟩; replace hS := Now.perm (Now.pushCells (Now.below hS hB) 42 #[.int .u64 rl, .int .u32 re, .int .i64 rk, .int .u64 rv, .int .u64 rd, .string ri, .string rw_]) List.perm_middle.symm; clear hB hcut x0 x1 x2 x3 x4 x5 x6)
            | (go_at_call 23; have h' := htb _ _ hS; (with_reducible refine h'.mono ?_); clear h' htb; rintro e w8 ⟨C1, m1, C2, m2, C3, m3, rfl, hO⟩; replace hS := Now.pushAll hS hO; clear hO)
            | (go_at_call 33; have h' := hrm C1 m1 C2 m2 C3 m3 _ (tabIn_of (pre := []) hS); clear hrm; (with_reducible refine h'.mono ?_); clear h'; rintro e w9 ⟨rfl, hB⟩; replace hS := Now.drop (pre := []) (Now.drop (pre := []) (Now.drop (pre := []) (Now.below hS hB))); clear hB; have hcb := Now.blk (pre := [_, _, _, _, _]) hS; have q0 : _ = some (Value.int .u64 rl) := hcb.cell 0; have q1 : _ = some (Value.int .u32 re) := hcb.cell 1; have q2 : _ = some (Value.int .i64 rk) := hcb.cell 2; have q3 : _ = some (Value.int .u64 rv) := hcb.cell 3; have q4 : _ = some (Value.int .u64 rd) := hcb.cell 4; have q5 : _ = some (Value.string ri) := hcb.cell 5; have q6 : _ = some (Value.string rw_) := hcb.cell 6; have hql := hcb.lt; clear hcb)
            | (go_at_call 16; have h' := hap _ _ hS; clear hap hS q0 q1 q2 q3 q4 q5 q6 hql; refine h'.mono ?_; clear h'; rintro e w10 ⟨rfl, D1, d1, D2, d2, D3, d3, hS⟩; have hcb := Now.blk (pre := [_, _, _, _, _]) hS; have q0 : _ = some (Value.int .u64 rl) := hcb.cell 0; have q1 : _ = some (Value.int .u32 re) := hcb.cell 1; have q2 : _ = some (Value.int .i64 rk) := hcb.cell 2; have q3 : _ = some (Value.int .u64 rv) := hcb.cell 3; have q4 : _ = some (Value.int .u64 rd) := hcb.cell 4; have q5 : _ = some (Value.string ri) := hcb.cell 5; have q6 : _ = some (Value.string rw_) := hcb.cell 6; have hql := hcb.lt; clear hcb; replace hS := Now.perm (Now.pushCells hS 36 #[.int .i64 ag, .int .i64 asl]) List.perm_middle.symm; have hqn := Nat.ne_of_lt hql)
            | (go_at_call 34; (with_reducible refine (href _).mono ?_); rintro e w11 ⟨rfl, hB⟩; replace hS := Now.below hS hB; clear hB href q0 q1 q2 q3 q4 q5 q6 hql hqn; have hcb := Now.blk (pre := [_, _, _, _, _, _]) hS; have q0 : _ = some (Value.int .u64 rl) := hcb.cell 0; have q1 : _ = some (Value.int .u32 re) := hcb.cell 1; have q2 : _ = some (Value.int .i64 rk) := hcb.cell 2; have q3 : _ = some (Value.int .u64 rv) := hcb.cell 3; have q4 : _ = some (Value.int .u64 rd) := hcb.cell 4; have q5 : _ = some (Value.string ri) := hcb.cell 5; have q6 : _ = some (Value.string rw_) := hcb.cell 6; have hql := hcb.lt; clear hcb; have hqn := Nat.ne_of_lt hql; replace hS := Now.alloc hS (.cells #[.int .u64 1, .int .u32 re, .int .i64 rk, .int .u64 rv, .int .u64 rd, .string ri, .string rw_] 84)))
          go_roundw
          case rel => exact ⟨k + 1, qz, rz, mz, s2, E2, D1, d1, D2, d2, D3, d3, B1, j1, B2, j2, by go_num, by omega, by omega, rfl, rfl, by omega, HD2, Lib.hid (Now.drop (pre := [_, _, _, _, _]) (Now.drop (pre := [_, _, _, _, _]) hS))⟩
          case measure => simp [intOf] <;> omega
        · go_wp2_with (first
            | (go_at_call 32; (with_reducible refine (hcut _).mono ?_); rintro e w7 ⟨rfl, hB⟩; replace hS := Now.perm (Now.pushCells (Now.below hS hB) 42 #[.int .u64 rl, .int .u32 re, .int .i64 rk, .int .u64 rv, .int .u64 rd, .string ri, .string rw_]) List.perm_middle.symm; clear hB hcut x0 x1 x2 x3 x4 x5 x6)
            | (go_at_call 23; have h' := htb _ _ hS; (with_reducible refine h'.mono ?_); clear h' htb; rintro e w8 ⟨C1, m1, C2, m2, C3, m3, rfl, hO⟩; replace hS := Now.pushAll hS hO; clear hO)
            | (go_at_call 33; have h' := hrm C1 m1 C2 m2 C3 m3 _ (tabIn_of (pre := []) hS); clear hrm; (with_reducible refine h'.mono ?_); clear h'; rintro e w9 ⟨rfl, hB⟩; replace hS := Now.drop (pre := []) (Now.drop (pre := []) (Now.drop (pre := []) (Now.below hS hB))); clear hB; have hcb := Now.blk (pre := [_, _, _, _, _]) hS; have q0 : _ = some (Value.int .u64 rl) := hcb.cell 0; have q1 : _ = some (Value.int .u32 re) := hcb.cell 1; have q2 : _ = some (Value.int .i64 rk) := hcb.cell 2; have q3 : _ = some (Value.int .u64 rv) := hcb.cell 3; have q4 : _ = some (Value.int .u64 rd) := hcb.cell 4; have q5 : _ = some (Value.string ri) := hcb.cell 5; have q6 : _ = some (Value.string rw_) := hcb.cell 6; have hql := hcb.lt; clear hcb)
            | (go_at_call 16; have h' := hap _ _ hS; clear hap hS q0 q1 q2 q3 q4 q5 q6 hql; refine h'.mono ?_; clear h'; rintro e w10 ⟨rfl, D1, d1, D2, d2, D3, d3, hS⟩; have hcb := Now.blk (pre := [_, _, _, _, _]) hS; have q0 : _ = some (Value.int .u64 rl) := hcb.cell 0; have q1 : _ = some (Value.int .u32 re) := hcb.cell 1; have q2 : _ = some (Value.int .i64 rk) := hcb.cell 2; have q3 : _ = some (Value.int .u64 rv) := hcb.cell 3; have q4 : _ = some (Value.int .u64 rd) := hcb.cell 4; have q5 : _ = some (Value.string ri) := hcb.cell 5; have q6 : _ = some (Value.string rw_) := hcb.cell 6; have hql := hcb.lt; clear hcb; replace hS := Now.perm (Now.pushCells hS 36 #[.int .i64 ag, .int .i64 asl]) List.perm_middle.symm; have hqn := Nat.ne_of_lt hql)
            | (go_at_call 34; (with_reducible refine (href _).mono ?_); rintro e w11 ⟨rfl, hB⟩; replace hS := Now.below hS hB; clear hB href q0 q1 q2 q3 q4 q5 q6 hql hqn; have hcb := Now.blk (pre := [_, _, _, _, _, _]) hS; have q0 : _ = some (Value.int .u64 rl) := hcb.cell 0; have q1 : _ = some (Value.int .u32 re) := hcb.cell 1; have q2 : _ = some (Value.int .i64 rk) := hcb.cell 2; have q3 : _ = some (Value.int .u64 rv) := hcb.cell 3; have q4 : _ = some (Value.int .u64 rd) := hcb.cell 4; have q5 : _ = some (Value.string ri) := hcb.cell 5; have q6 : _ = some (Value.string rw_) := hcb.cell 6; have hql := hcb.lt; clear hcb; have hqn := Nat.ne_of_lt hql; replace hS := Now.alloc hS (.cells #[.int .u64 1, .int .u32 re, .int .i64 rk, .int .u64 rv, .int .u64 rd, .string ri, .string rw_] 84)))
          go_roundw
          case rel => exact ⟨k + 1, qz, rz, mz, s2, E2, D1, d1, D2, d2, D3, d3, B1, j1, B2, j2, by go_num, by omega, by omega, rfl, rfl, by omega, HD2, Lib.hid (Now.drop (pre := [_, _, _, _, _]) (Now.drop (pre := [_, _, _, _, _]) hS))⟩
          case measure => simp [intOf] <;> omega
        · obtain ⟨es, el, en, erc⟩ := en
          dsimp only at hes hel her
          obtain rfl := hes
          obtain rfl := hel
          obtain rfl := her
          rw [hrt] at hrr
          have hk3c : (rk == 3) = false := beq_eq_false_iff_ne.2 hk3
          have hr0c : (s.T.room == 0) = false := beq_eq_false_iff_ne.2 hr0
          go_wp2_with (first
            | (go_at_call 32; (with_reducible refine (hcut _).mono ?_); rintro e w7 ⟨rfl, hB⟩; replace hS := Now.perm (Now.pushCells (Now.below hS hB) 42 #[.int .u64 rl, .int .u32 re, .int .i64 rk, .int .u64 rv, .int .u64 rd, .string ri, .string rw_]) List.perm_middle.symm; clear hB hcut x0 x1 x2 x3 x4 x5 x6)
            | (go_at_call 23; have h' := htb _ _ hS; (with_reducible refine h'.mono ?_); clear h' htb; rintro e w8 ⟨C1, m1, C2, m2, C3, m3, rfl, hO⟩; replace hS := Now.pushAll hS hO; clear hO)
            | (go_at_call 33; have h' := hrm C1 m1 C2 m2 C3 m3 _ (tabIn_of (pre := []) hS); clear hrm; (with_reducible refine h'.mono ?_); clear h'; rintro e w9 ⟨rfl, hB⟩; replace hS := Now.drop (pre := []) (Now.drop (pre := []) (Now.drop (pre := []) (Now.below hS hB))); clear hB; have hcb := Now.blk (pre := [_, _, _, _, _]) hS; have q0 : _ = some (Value.int .u64 rl) := hcb.cell 0; have q1 : _ = some (Value.int .u32 re) := hcb.cell 1; have q2 : _ = some (Value.int .i64 rk) := hcb.cell 2; have q3 : _ = some (Value.int .u64 rv) := hcb.cell 3; have q4 : _ = some (Value.int .u64 rd) := hcb.cell 4; have q5 : _ = some (Value.string ri) := hcb.cell 5; have q6 : _ = some (Value.string rw_) := hcb.cell 6; have hql := hcb.lt; clear hcb)
            | (go_at_call 16; have h' := hap _ _ hS; clear hap hS q0 q1 q2 q3 q4 q5 q6 hql; refine h'.mono ?_; clear h'; rintro e w10 ⟨rfl, D1, d1, D2, d2, D3, d3, hS⟩; have hcb := Now.blk (pre := [_, _, _, _, _]) hS; have q0 : _ = some (Value.int .u64 rl) := hcb.cell 0; have q1 : _ = some (Value.int .u32 re) := hcb.cell 1; have q2 : _ = some (Value.int .i64 rk) := hcb.cell 2; have q3 : _ = some (Value.int .u64 rv) := hcb.cell 3; have q4 : _ = some (Value.int .u64 rd) := hcb.cell 4; have q5 : _ = some (Value.string ri) := hcb.cell 5; have q6 : _ = some (Value.string rw_) := hcb.cell 6; have hql := hcb.lt; clear hcb; replace hS := Now.perm (Now.pushCells hS 36 #[.int .i64 (es : Int), .int .i64 (el : Int)]) List.perm_middle.symm; have hqn := Nat.ne_of_lt hql)
            | (go_at_call 34; (with_reducible refine (href _).mono ?_); rintro e w11 ⟨rfl, hB⟩; replace hS := Now.below hS hB; clear hB href q0 q1 q2 q3 q4 q5 q6 hql hqn; have hcb := Now.blk (pre := [_, _, _, _, _, _]) hS; have q0 : _ = some (Value.int .u64 rl) := hcb.cell 0; have q1 : _ = some (Value.int .u32 re) := hcb.cell 1; have q2 : _ = some (Value.int .i64 rk) := hcb.cell 2; have q3 : _ = some (Value.int .u64 rv) := hcb.cell 3; have q4 : _ = some (Value.int .u64 rd) := hcb.cell 4; have q5 : _ = some (Value.string ri) := hcb.cell 5; have q6 : _ = some (Value.string rw_) := hcb.cell 6; have hql := hcb.lt; clear hcb; have hqn := Nat.ne_of_lt hql; replace hS := Now.alloc hS (.cells #[.int .u64 1, .int .u32 re, .int .i64 rk, .int .u64 rv, .int .u64 rd, .string ri, .string rw_] 84))
            | (go_at_call 35; (with_reducible refine (hrr _).mono ?_); rintro e w12 ⟨rfl, hB⟩; replace hS := Now.below hS hB; clear hB hrr q0 q1 q2 q3 q4 q5 q6 hql hqn; have hcb := Now.blk (pre := [_, _, _, _, _]) hS; have l0 : _ = some (Value.int .i64 (es : Int)) := hcb.cell 0; have l1 : _ = some (Value.int .i64 (el : Int)) := hcb.cell 1; have hln := Nat.ne_of_lt hcb.lt; clear hcb; have hcb := Now.blk (pre := [_, _, _, _, _, _]) hS; have q0 : _ = some (Value.int .u64 rl) := hcb.cell 0; have q1 : _ = some (Value.int .u32 re) := hcb.cell 1; have q2 : _ = some (Value.int .i64 rk) := hcb.cell 2; have q3 : _ = some (Value.int .u64 rv) := hcb.cell 3; have q4 : _ = some (Value.int .u64 rd) := hcb.cell 4; have q5 : _ = some (Value.string ri) := hcb.cell 5; have q6 : _ = some (Value.string rw_) := hcb.cell 6; have hql := hcb.lt; clear hcb; have hrow := Now.row (pre := [_, _, _, _, _, _, _, _]) hS)
            | (have _g := l0; at_builtin; refine wpList_appS _ rfl _ _ 81 rfl 36 Tryz.underlying81 hil0 hil1 hil2 hil3 rfl (by omega) hrow rfl rfl rfl (by simp [Value.oneCell']) hE31 hE32 ?_; intro vL w13 ho hg hn; obtain ⟨V1, v1, rfl, _⟩ := own_slice2 ho; replace hS := Now.grown (pre := [_, _, _, _, _, _, _, _]) hS ho hg (hn.imp id fun h => ⟨_, Nat.le_succ _, h⟩); clear hrow ho hg hn l0 l1 hln _g q0 q1 q2 q3 q4 q5 q6 hql; have hcb := Now.blk (pre := [_, _, _, _, _, _]) hS; have q0 : _ = some (Value.int .u64 rl) := hcb.cell 0; have q1 : _ = some (Value.int .u32 re) := hcb.cell 1; have q2 : _ = some (Value.int .i64 rk) := hcb.cell 2; have q3 : _ = some (Value.int .u64 rv) := hcb.cell 3; have q4 : _ = some (Value.int .u64 rd) := hcb.cell 4; have q5 : _ = some (Value.string ri) := hcb.cell 5; have q6 : _ = some (Value.string rw_) := hcb.cell 6; have hql := hcb.lt; clear hcb; have hrow := Now.row (pre := [_, _, _, _, _, _, _]) hS)
            | (at_builtin; refine wpList_appS _ rfl _ _ 80 rfl 42 Tryz.underlying80 hir0 hir1 hir2 hir3 rfl (by omega) hrow rfl rfl rfl (by simp [Value.oneCell']) hE31 hE33 ?_; intro vL w14 ho hg hn; obtain ⟨V2, v2, rfl, _⟩ := own_slice2 ho; replace hS := Now.grown (pre := [_, _, _, _, _, _, _]) hS ho hg (hn.imp id fun h => ⟨_, Nat.le_succ _, h⟩); clear hrow ho hg hn q0 q1 q2 q3 q4 q5 q6 hql))
          go_roundw
          case rel =>
            refine ⟨k + 1, qz, rz, mz, s2, _, D1, d1, D2, d2, D3, d3, V1, v1, V2, v2, by go_num, by omega, by omega, ?_, ?_, by omega, HD2, Lib.hid ?_⟩
            · rw [List.length_append]; rfl
            · rw [List.length_append]; rfl
            · rw [locC_snoc, whatC_snoc, List.length_append]
              exact Now.drop (pre := [_, _, _, _, _]) (Now.drop (pre := [_, _, _, _, _]) hS)
          case measure => simp [intOf] <;> omega
      · have hgd : ((k : Int) < (nA : Int) ∧ ¬ (k : Int) < 60) ∨ ¬ (k : Int) < (nA : Int) := by omega
        have hok := hD.out.f.g.ok (by omega)
        have hmany := hD.out.many hzs
        have hpos := hok.t.pos
        have hll := hok.t.len
        have hfs := hok.t.fst
        obtain ⟨y1, hy1⟩ : ∃ y, s.T.order[0]? = some y := ⟨_, List.getElem?_eq_getElem (by omega)⟩
        obtain ⟨y2, hy2⟩ : ∃ y, s.T.lens[0]? = some y := ⟨_, List.getElem?_eq_getElem (by omega)⟩
        obtain ⟨y3, hy3⟩ : ∃ y, s.T.firsts[0]? = some y := ⟨_, List.getElem?_eq_getElem (by omega)⟩
        obtain ⟨t1, rfl, _, _⟩ := read_cell (k := 0) (u := .int .i64 y1) (Reads.of_own (Now.row (pre := [_]) hS)) (show 0 < s.T.order.length by omega) (by rw [List.getElem?_map, hy1]; rfl)
        obtain ⟨t2, rfl, _, _⟩ := read_cell (k := 0) (u := .int .i64 y2) (Reads.of_own (Now.row (pre := [_, _]) hS)) (show 0 < s.T.lens.length by omega) (by rw [List.getElem?_map, hy2]; rfl)
        obtain ⟨t3, rfl, _, _⟩ := read_cell (k := 0) (u := .int .u64 y3) (Reads.of_own (Now.row (pre := [_, _, _]) hS)) (show 0 < s.T.firsts.length by omega) (by rw [List.getElem?_map, hy3]; rfl)
        have htb := fun X v (h : Now (fun _ => False) W v (s.parts g gd 1 (some t1) k1 (some t2) k2 (some t3) k3 ++ X)) => Table_any g gd s.T hok.t t1 k1 t2 k2 t3 k3 s.lsn 1 s.gen v (Now.blk (pre := []) h) (tabIn_of (pre := [_]) h)
        have hus := fun C1 m1 C2 m2 C3 m3 v (h : Reads v v.heap.size 1 C2 s.T.lens.length (ints s.T.lens)) => Used_any s.T hok.t C1 m1 C2 m2 C3 m3 v h
        rw [show s.T.used = (E.length : Int) from (sumTo_all _).trans hD.out.used] at hus
        have hrdc : ∀ e ∈ E, ∀ X v, Now (fun _ => False) W v (s.parts g gd 1 (some t1) k1 (some t2) k2 (some t3) k3 ++ X) → Calls Tryz.prog 24 #[.pointer (some ⟨g, 0, none⟩), .agg #[.int .i64 (e.seg : Int), .int .i64 (e.slot : Int)]] v fun en w' => en = .returned (.tuple #[.agg #[.int .u64 e.lsn, .int .u32 1, .int .i64 e.rc.kind, .int .u64 e.rc.ver, .int .u64 e.rc.dl, .string e.rc.id, .string e.rc.val], .int .i64 0]) ∧ Now (fun _ => False) W w' (s.parts g gd 1 (some t1) k1 (some t2) k2 (some t3) k3 ++ X) := fun e he X v h => by
          have h1 := Read_any s hok g gd 1 (e.seg : Int) (e.slot : Int) (some t1) k1 (some t2) k2 (some t3) k3 h
          rw [hD.out.read (by omega) he] at h1
          exact h1
        have hup : ∀ (i : Nat) (a b : Ent), E[i]? = some a → E[i + 1]? = some b → a.lsn < b.lsn := fun i a b ha hb => by
          obtain ⟨i1, e1⟩ := List.getElem?_eq_some_iff.1 ha
          obtain ⟨i2, e2⟩ := List.getElem?_eq_some_iff.1 hb
          have := (List.pairwise_iff_getElem.1 hD.out.up) i (i + 1) i1 i2 (Nat.lt_succ_self i)
          rwa [e1, e2] at this
        have hlb : ∀ e ∈ E, 1 ≤ e.lsn := fun e he => (hD.out.inn e he).lsn.1
        clear hy1 hy2 hy3 hpos hll hfs hok hD hlt wl hfl
        rcases hgd with ⟨g1, g2⟩ | g1
        all_goals
          go_wp2_with fail
          go_loopw [10, 17] (fun vl vi wr => ∃ (i : Nat) (l : Int), vl = .int .u64 l ∧ vi = .int .i64 i ∧ i ≤ E.length ∧ 0 ≤ l ∧ (∀ e, E[i]? = some e → l < e.lsn) ∧ Hid (Now (fun _ => False) W wr (s.parts g gd 1 (some t1) k1 (some t2) k2 (some t3) k3 ++ [Thing.row 42 7 (.slice B2 E.length j2) E.length (whatC E), Thing.row 36 2 (.slice B1 E.length j1) E.length (locC E), Thing.cells W.heap.size 24 z.cells]))) (fun _ vi _ => 61 - (intOf vi).toNat)
          case atStart => exact ⟨0, 0, rfl, rfl, by omega, by omega, fun e he => by have := hlb e (List.mem_of_getElem? he); omega, Lib.hid hS⟩
          case round =>
            clear hS
            obtain ⟨i, l, rfl, rfl, hi, hl0, hle2, hS⟩ := hrel
            replace hS := hS.out
            by_cases hin : i < E.length
            · have hinI : (i : Int) < (E.length : Int) := by omega
              obtain ⟨e, he⟩ : ∃ e, E[i]? = some e := ⟨_, List.getElem?_eq_getElem hin⟩
              have hn0 : 0 < E.length := by omega
              have hme := List.mem_of_getElem? he
              have hrd := hrdc e hme
              have hlt2 := hle2 e he
              have hnext := fun b hb => hup i e b he hb
              have hlb2 := hlb e hme
              obtain ⟨ad1, rfl, hb1, hc1⟩ := row_at7 (Reads.of_own (Now.row (pre := [_, _, _, _, _, _]) hS)) hn0
              obtain ⟨ad2, rfl, _, _⟩ := row_at7 (Reads.of_own (Now.row (pre := [_, _, _, _, _]) hS)) hn0
              obtain ⟨l0, l1⟩ := loc_at hc1 he
              have hmul2 : IntKind.i64.wrap ((i : Int) * 2) = (i : Int) * 2 := IntWalk.i64_in _ (by omega)
              have hmul7 : IntKind.i64.wrap ((i : Int) * 7) = (i : Int) * 7 := IntWalk.i64_in _ (by omega)
              have hleq : ¬ e.lsn ≤ l := by omega
              clear hc1 hb1 hrdc hup hlb hus htb
              go_wp2_with (go_at_call 24; have h' := hrd _ _ hS; clear hrd hS l0 l1; refine h'.mono ?_; clear h'; rintro e1 w2 ⟨rfl, hS⟩; replace hS := Now.alloc hS (.cells #[.int .u64 e.lsn, .int .u32 1, .int .i64 e.rc.kind, .int .u64 e.rc.ver, .int .u64 e.rc.dl, .string e.rc.id, .string e.rc.val] 42); obtain ⟨_, e3, hb3, hc3⟩ := row_at7 (Reads.of_own (Now.row (pre := [_, _, _, _, _]) hS)) hn0; obtain rfl := Option.some.inj e3; obtain ⟨p0, p1, p2, p3, p4, p5, p6⟩ := what_at hc3 he)
              go_roundw
              case rel => exact ⟨i + 1, e.lsn, rfl, by go_num, by omega, by omega, hnext, Lib.hid (Now.alloc hS _)⟩
              case measure => simp [intOf] <;> omega
            · obtain rfl : i = E.length := by omega
              have hinI : ¬ ((E.length : Nat) : Int) < (E.length : Int) := by omega
              clear hup hlb hrdc
              go_wp2_with (first
                | (go_at_call 23; have h' := htb _ _ hS; (with_reducible refine h'.mono ?_); clear h' htb; rintro e w8 ⟨C1, m1, C2, m2, C3, m3, rfl, hO⟩; replace hS := Now.pushAll hS hO; clear hO)
                | (go_at_call 36; have h' := hus C1 m1 C2 m2 C3 m3 _ (Reads.of_own (Now.row (pre := [_]) hS)); clear hus; (with_reducible refine h'.mono ?_); clear h'; rintro e w9 ⟨rfl, hB⟩; replace hS := Now.below hS hB; clear hB)
                | (go_at_call 12; (with_reducible refine (hfx _).mono ?_); rintro e w22 ⟨rfl, hB⟩; replace hS := Now.below hS hB; clear hB))
              go_ret
              exact ⟨rfl, Sep.base hS⟩
end Go.Proofs.YthlbciinpidedaaGreat

/- The walk of the law DiskDoes. -/
import Derived.Test.YtofoneapfokdjaaDo5b
import Derived.Test.YtofoneapfokdjaaShapes
import Derived.Test.YtofoneapfokdjaaFixed05
namespace Go.Proofs.Ytofoneapfokdjaa
set_option linter.unusedSimpArgs false
set_option linter.unusedVariables false
open Go.RowKit
attribute [local go_sem high] run_mx run_mn

theorem Do_all (g h : Nat) (d : Dsk) (r : RDsk) (hR : Rel d r) (hp : d.pend.length ≤ 100000000) (kind i : Int) (hi1 : -9223372036854775808 ≤ i) (hi2 : i ≤ 9223372036854775807) (s : ByteArray) (hs : s.size ≤ 9223372036854775807) (A : Option Addr) (n c : Nat) (torn at_ : Int) (w : World) (S : Nat → Prop) (hN : Now S w w [dskT g d, refT h r])
    (bs : List Bool) (hk : ∀ v, Fr S w v → ∀ S', (∀ k, S' k → S k ∨ w.heap.size ≤ k) → KeepAt v S' A n bs) :
    Calls Try.prog 22 #[.pointer (some ⟨g, 0, none⟩), .pointer (some ⟨h, 0, none⟩), .agg (opVal kind i s A n c torn at_)] w fun e w' => Did S w w' g h (d.pend.length + 1) e := by
  obtain ⟨m, hm⟩ : ∃ m, bits BinOp.and IntKind.i64 kind 7 = m := ⟨_, rfl⟩
  by_cases h1 : m = 0 ∨ m = 1 ∨ m = 2
  · exact Do_write g h d r hR hp kind i s hs A n c torn at_ w S hN m hm h1
  by_cases h3 : m = 3
  · exact Do_flush g h d r hR hp kind i s hs A n c torn at_ w S hN m hm h3
  by_cases h4 : m = 4
  · exact Do_limit g h d r hR hp kind i s hs A n c torn at_ w S hN hi1 hi2 m hm h4
  by_cases h5 : m = 5
  · exact Do_crash g h d r hR hp kind i s hs A n c torn at_ w S hN bs hk m hm h5
  by_cases h6 : m = 6
  · exact Do_bad g h d r hR hp kind i s hs A n c torn at_ w S hN m hm h6
  · exact Do_none g h d r hR hp kind i s hs A n c torn at_ w S hN m hm (by omega)
/-- .. among other things. -/
theorem Do_in {W w : World} {L : List Thing} (g h : Nat) (d : Dsk) (r : RDsk) (hR : Rel d r) (hp : d.pend.length ≤ 100000000) (kind i : Int) (hi1 : -9223372036854775808 ≤ i) (hi2 : i ≤ 9223372036854775807) (s : ByteArray) (hs : s.size ≤ 9223372036854775807) (A : Option Addr) (n c : Nat) (torn at_ : Int)
    (hN : Sep W w (dskT g d :: refT h r :: L)) (bs : List Bool) (hl : bs.length = n) (hc : ∀ k, k < n → ∃ ad, A = some ad ∧ ad.block < W.heap.size ∧ W.cell? (ad.add k) = some (.bool (bs[k]?.getD false))) :
    Calls Try.prog 22 #[.pointer (some ⟨g, 0, none⟩), .pointer (some ⟨h, 0, none⟩), .agg (opVal kind i s A n c torn at_)] w fun e w' => e = .returned (.int .i64 1) ∧ ∃ d' r', Rel d' r' ∧ d'.pend.length ≤ d.pend.length + 1 ∧ Sep W w' (dskT g d' :: refT h r' :: L) := by
  have hb := Sep.base hN
  have hz := hN.size
  obtain ⟨S, hO, hS, h2⟩ := Now.at_ (pre := []) (Now.fold (pre := []) (M := [dskT g d, refT h r]) (O := Thing.all [dskT g d, refT h r]) hN (fun _ h => h))
  refine (Do_all g h d r hR hp kind i hi1 hi2 s hs A n c torn at_ w S (Now.start hO) bs (fun v hF S' hS' => KeepAt.arg hb hz (fun k hk => (hS k hk).resolve_left id) hF hS' hl hc)).mono fun e w' ⟨he, d', r', h3, h4, h5⟩ => ⟨he, d', r', h3, h4, h2 w' _ h5⟩

section
open Go.ChangeShapes Go.WideShapes Go.ChangeAt Go.Deep
variable {H : Type} {enc : TypeId × Value → H} {W : World} {b0 : Nat}
abbrev opForm (W : World) : List (List Value → Prop) := [rdInt .i64, rdInt .i64, rdStr, rdSlice W 1 rdBool, rdInt .i64, rdInt .i64]
set_option maxRecDepth 100000 in
theorem opened_sl_Op {v : Value} {d : DataW H} {ps : List MemPlace} (hv : Value.okWide Try.prog W .any b0 47 v) (h : DataW.Trod enc Try.prog W 0 (fun _ => true) true 47 v d ps) : ∃ A n c xss, v = .slice A n c ∧ Elems W 6 (Parts (opForm W)) A n c xss :=
  opened_sl Try.underlying47 (tr_slice (by omega) Try.underlying47 (by kernel_rfl) (tr_struct Try.underlying55 (by kernel_rfl)
    ⟨rfl, tr_int Try.underlying3, by kernel_rfl, tr_int Try.underlying3, by kernel_rfl, tr_str Try.underlying9, by kernel_rfl, tr_slice (by omega) Try.underlying39 (by kernel_rfl) (tr_bool Try.underlying4), by kernel_rfl, tr_int Try.underlying3, by kernel_rfl, tr_int Try.underlying3, trivial⟩)) hv h
end
theorem op_form {W : World} {cs : List Value} (h : Parts (opForm W) cs) : ∃ (kind i : Int) (s : ByteArray) (A : Option Addr) (n c : Nat) (torn at_ : Int) (bs : List Bool), cs = (opVal kind i s A n c torn at_).toList ∧ (Lit.int .i64 i).wf = true ∧ s.size ≤ maxLen ∧ bs.length = n ∧ ∀ k, k < n → ∃ ad, A = some ad ∧ ad.block < W.heap.size ∧ W.cell? (ad.add k) = some (.bool (bs[k]?.getD false)) := by
  obtain ⟨_, _, rfl, ⟨k, rfl, _⟩, g1⟩ := h.cons
  obtain ⟨_, _, rfl, ⟨i, rfl, hi⟩, g2⟩ := g1.cons
  obtain ⟨_, _, rfl, ⟨s, rfl, hs⟩, g3⟩ := g2.cons
  obtain ⟨_, _, rfl, ⟨A, n, c, xss, rfl, hE⟩, g4⟩ := g3.cons
  obtain ⟨_, _, rfl, ⟨t, rfl, _⟩, g5⟩ := g4.cons
  obtain ⟨_, _, rfl, ⟨a, rfl, _⟩, g6⟩ := g5.cons
  have g6 : _ = [] := g6
  subst g6
  obtain ⟨bs, h1, h2⟩ := hE.bools
  exact ⟨k, i, s, A, n, c, t, a, bs, rfl, hi, hs, h1, h2⟩

theorem Copy_in {S0 : Nat → Prop} {w0 w : World} {pre post : List Thing} {g : Nat} {d : Dsk} (hN : Now S0 w0 w (pre ++ dskT g d :: post)) (hp : d.pend.length ≤ 1000000000) :
    Calls Try.prog 20 #[.pointer (some ⟨g, 0, none⟩)] w fun e w' => CopyOf w w' (fun g => dskT g d) e := by
  obtain ⟨S, hO⟩ := hN.get
  exact Copy_any g d w S hO hp
theorem RCopy_in {S0 : Nat → Prop} {w0 w : World} {pre post : List Thing} {h : Nat} {r : RDsk} (hN : Now S0 w0 w (pre ++ refT h r :: post)) (hr : r.Fits) :
    Calls Try.prog 21 #[.pointer (some ⟨h, 0, none⟩)] w fun e w' => CopyOf w w' (fun h => refT h r) e := by
  obtain ⟨S, hO⟩ := hN.get
  exact RCopy_any h r hr w S hO
/-- The copies of both, beside them. -/
theorem copies {W w w1 w2 : World} {g h : Nat} {d : Dsk} {r : RDsk} {L : List Thing} {e1 e2 : Ending} (hN : Sep W w (dskT g d :: refT h r :: L)) (h1 : CopyOf w w1 (fun g => dskT g d) e1) (h2 : CopyOf w1 w2 (fun h => refT h r) e2) :
    ∃ gc hc, e1 = .returned (.pointer (some ⟨gc, 0, none⟩)) ∧ e2 = .returned (.pointer (some ⟨hc, 0, none⟩)) ∧ Sep W w2 (dskT g d :: refT h r :: dskT gc d :: refT hc r :: L) := by
  obtain ⟨gc, rfl, hb1, S1, ho1, hn1⟩ := h1
  obtain ⟨hc, rfl, hb2, S2, ho2, hn2⟩ := h2
  refine ⟨gc, hc, rfl, rfl, ?_⟩
  have a1 := Now.push hN hb1 ho1 hn1
  have a2 := Now.push a1 hb2 ho2 hn2
  have a3 := Now.swap a2
  have a4 := Now.front (pre := [_, _, _]) a3
  exact Now.front (pre := [_, _, _]) a4

theorem cell6 {W w : World} {L : List Thing} {ad : Addr} {k : Nat} {cs : Array Value} (hN : Sep W w L) (hb : ad.block < W.heap.size) (hc : ∀ q, q < 6 → W.cell? (ad.add (k * 6 + q)) = cs.toList[q]?) {x0 x1 x2 x3 x4 x5 : Value} (e : cs = #[x0, x1, x2, x3, x4, x5]) :
    w.cell? (ad.add (k * 6)) = some x0 ∧ w.cell? ⟨(ad.add (k * 6)).block, (ad.add (k * 6)).off + 1, none⟩ = some x1 ∧ w.cell? ⟨(ad.add (k * 6)).block, (ad.add (k * 6)).off + 2, none⟩ = some x2 ∧ w.cell? ⟨(ad.add (k * 6)).block, (ad.add (k * 6)).off + 3, none⟩ = some x3 ∧ w.cell? ⟨(ad.add (k * 6)).block, (ad.add (k * 6)).off + 4, none⟩ = some x4 ∧ w.cell? ⟨(ad.add (k * 6)).block, (ad.add (k * 6)).off + 5, none⟩ = some x5 := by
  subst e
  have hw : ∀ q, q < 6 → w.cell? ((ad.add (k * 6)).add q) = (#[x0, x1, x2, x3, x4, x5] : Array Value).toList[q]? := fun q hq => by
    rw [add_of_add]
    exact ((Sep.base hN).cell (by rw [block_of_add]; exact hb)).trans (hc q hq)
  refine ⟨?_, cell_off (hw 1 (by omega)), cell_off (hw 2 (by omega)), cell_off (hw 3 (by omega)), cell_off (hw 4 (by omega)), cell_off (hw 5 (by omega))⟩
  have := hw 0 (by omega)
  rwa [show (ad.add (k * 6)).add 0 = ad.add (k * 6) from rfl] at this

set_option maxRecDepth 100000 in
set_option maxHeartbeats 8000000 in
theorem walkDiskDoes (W : World) (n : Int) (wn : (Lit.int .i64 n).wf = true) (A : Option Addr) (m c : Nat) (xss : List (List Value)) (wl : Elems W 6 (Parts (opForm W)) A m c xss) (cut : Int) (wc : (Lit.int .u8 cut).wf = true) :
    Calls Try.prog 8 #[.int .i64 n, .slice A m c, .int .u8 cut] W fun e w' => e = .returned (.bool true) ∧ Below W.heap.size W w' := by
  by_cases hn : n < 1 ∨ 4096 < n
  · clear wl wc wn
    go_enter Try.func8, Try.ntmps8
    go_wp2_with (first
      | (go_at_call 9; (with_reducible refine (New_bad n _ hn).mono ?_); rintro e w1 ⟨rfl, rfl⟩)
      | (go_at_call 19; (with_reducible refine (RNew_bad n _ hn).mono ?_); rintro e w1 ⟨rfl, rfl⟩)
      | (go_at_call 17; (with_reducible refine (fixed_all _).mono ?_); rintro e w7 ⟨rfl, hB⟩))
    go_ret
    exact ⟨rfl, hB⟩
  · obtain ⟨N, rfl⟩ : ∃ N : Nat, n = N := ⟨n.toNat, by omega⟩
    have hN1 : 1 ≤ N := by omega
    have hN2 : N ≤ 4096 := by omega
    have hR := Rel.new N hN1 hN2
    have hcut := bounds_u8 wc
    have hle := wl.le
    have hcap := wl.cap
    unfold maxLen at hcap
    have hst := Sep.start W
    clear wn wc hn
    go_enter Try.func8, Try.ntmps8
    go_wp2_with fail
    refine (New_ok N _ (by omega) (by omega)).mono ?_
    rintro e w1 ⟨rfl, hD1, hb1⟩
    obtain ⟨g, hg⟩ : ∃ g, W.heap.size + 1 = g := ⟨_, rfl⟩
    have hS1 : Sep W w1 [dskT g (newDsk N)] := Now.push hst hb1 (O := dskT g (newDsk N)) (S' := foot g W.heap.size (.slice none 0 0)) ⟨W.heap.size, .slice none 0 0, hg ▸ hD1, fun _ => Iff.rfl⟩ (fun k hk => by
      rcases hk with rfl | rfl | hk
      · omega
      · omega
      · simp [Value.ownBlock] at hk)
    rw [hg]
    clear hg hD1 hb1 hst
    go_wp2_with fail
    refine (RNew_ok N _ hN1 hN2).mono ?_
    rintro e w2 ⟨h, rfl, hH⟩
    have hS2 : Sep W w2 [dskT g (newDsk N), refT h (newRef N)] := Now.swap (Now.pushAll hS1 hH)
    clear hH hS1
    have hp0 : (newDsk N).pend.length ≤ 0 := Nat.le_refl _
    generalize newDsk N = d0 at hR hS2 hp0
    generalize newRef N = r0 at hR hS2
    have hF0 := hR.fits (by omega)
    go_wp2_with (first
      | (go_at_call 20; (refine (Copy_in (pre := []) hS2 (by omega)).mono ?_); rintro e w3 hC1; obtain ⟨gc, rfl, hC2⟩ := id hC1)
      | (go_at_call 21; (refine (RCopy_in (pre := [_]) (hS2.below hC2.1) hF0).mono ?_); rintro e w4 hC3; obtain ⟨gc', hc, e1, rfl, hS3⟩ := copies hS2 hC1 hC3; cases e1; clear hS2 hC1 hC2 hC3))
    clear hF0
    go_loopw [11, 12, 13] (fun pc pq i wr => ∃ (k : Nat) (d : Dsk) (r : RDsk) (gc hc : Nat) (dc : Dsk) (rc : RDsk), k ≤ m ∧ k ≤ 40 ∧ i = .int .i64 k ∧ pc = .pointer (some ⟨gc, 0, none⟩) ∧ pq = .pointer (some ⟨hc, 0, none⟩) ∧ Rel d r ∧ Rel dc rc ∧ d.pend.length ≤ k ∧ dc.pend.length ≤ 40 ∧ Sep W wr [dskT g d, refT h r, dskT gc dc, refT hc rc]) (fun _ _ i _ => m - (intOf i).toNat)
    case atStart => exact ⟨0, d0, r0, gc, hc, d0, r0, by omega, by omega, rfl, rfl, rfl, hR, hR, hp0, by omega, hS3⟩
    case round =>
      clear hS3 hR hp0
      obtain ⟨k, d, r, gc, hc, dc, rc, hk, hk40, rfl, rfl, rfl, hR, hRc, hp, hpc, hS⟩ := hrel
      by_cases hlt : k < m ∧ k < 40
      · obtain ⟨hlt, hlt2⟩ := hlt
        obtain ⟨ad, x, rfl, hb, hx, _, hc6⟩ := wl.get hlt
        obtain ⟨kind, i, s, A', n', c', torn, at_, bs, rfl, hwi, hs, hbl, hbc⟩ := op_form hx
        have hwi := bounds_i64 hwi
        have hcell := fun v L (hN : Sep W v L) => cell6 hN hb hc6 rfl
        have hmul : IntKind.i64.wrap ((k : Int) * 6) = (k : Int) * 6 := IntWalk.i64_in _ (by omega)
        unfold maxLen at hs
        clear wl hx hc6
        by_cases hcu : (k : Int) = cut % 40
        · have hcu1 : (k : Int) ≤ cut % 40 := by omega
          have hcu2 : cut % 40 ≤ (k : Int) := by omega
          clear hcu
          have hF := hR.fits (by omega)
          have hdo := fun v L (hN : Sep W v (dskT g d :: refT h r :: L)) => Do_in g h d r hR (by omega) kind i hwi.1 hwi.2 s (by omega) A' n' c' torn at_ hN bs hbl hbc
          have HS := Lib.hid hcell
          have HD := Lib.hid hdo
          have HB := Lib.hid hbc
          clear hcell hdo hbc hbl
          go_wp2_with (first
            | (go_at_call 20; (refine (Copy_in (pre := []) hS (by omega)).mono ?_); rintro e w3 hC1; obtain ⟨gc2, rfl, hC2⟩ := id hC1)
            | (go_at_call 21; (refine (RCopy_in (pre := [_]) (hS.below hC2.1) hF).mono ?_); rintro e w4 hC3; obtain ⟨gc3, hc2, e1, rfl, hS3⟩ := copies hS hC1 hC3; cases e1; replace hS3 := Now.drop (pre := [_, _, _, _]) (Now.drop (pre := [_, _, _, _]) hS3); obtain ⟨c0, c1, c2, c3, c4, c5⟩ := HS.out _ _ hS3; clear hS hC1 hC2 hC3)
            | (go_at_call 22; (refine (HD.out _ _ hS3).mono ?_); rintro e w5 ⟨rfl, d', r', hR', hp', hS5⟩; clear hS3 c0 c1 c2 c3 c4 c5))
          go_roundw
          case rel => exact ⟨k + 1, d', r', _, _, d, r, by omega, by omega, by go_num, rfl, rfl, hR', hR, by omega, by omega, hS5⟩
          case measure => simp [intOf]; omega
        · have hdo := fun v L (hN : Sep W v (dskT g d :: refT h r :: L)) => Do_in g h d r hR (by omega) kind i hwi.1 hwi.2 s (by omega) A' n' c' torn at_ hN bs hbl hbc
          have HD := Lib.hid hdo
          have HB := Lib.hid hbc
          obtain ⟨c0, c1, c2, c3, c4, c5⟩ := hcell _ _ hS
          clear hcell hdo hbc hbl
          go_wp2_with (first
            | (go_at_call 22; (refine (HD.out _ _ hS).mono ?_); rintro e w5 ⟨rfl, d', r', hR', hp', hS5⟩; clear hS c0 c1 c2 c3 c4 c5))
          go_roundw
          case rel => exact ⟨k + 1, d', r', _, _, dc, rc, by omega, by omega, by go_num, rfl, rfl, hR', hRc, by omega, hpc, hS5⟩
          case measure => simp [intOf]; omega
      · have hgd : (k < m ∧ ¬ k < 40) ∨ ¬ k < m := by omega
        clear hlt wl
        have hX := hRc.crash [true, false, true] 1 64
        have hFc := hRc.fits (by omega)
        have hGc := hRc.good
        have hIc := hRc.ins
        have hGr := hRc.rgood
        have hml : (#[Value.bool true, .bool false, .bool true] : Array Value).size ≤ maxLen := by simp [maxLen]
        have HX := Lib.hid hX
        have hXp : (dc.crash [true, false, true] 1 64).pend.length ≤ 1000000000 := by simp [Dsk.crash]
        rcases hgd with ⟨g1, g2⟩ | g1
        all_goals
          go_wp2_with (first
            | (go_at_call 23; (with_reducible refine (Same_any g h d r hR (by omega) _ _ _ _ hS).mono ?_); rintro e w5 ⟨rfl, hS5⟩; replace hS5 := Now.front (pre := [_, _, _]) (Now.front (pre := [_, _, _]) hS5); clear hS)
            | (go_at_call 23; (with_reducible refine (Same_any gc hc dc rc hRc (by omega) _ _ _ _ hS5).mono ?_); rintro e w6 ⟨rfl, hS6⟩; have hS7 := Now.pushRow hS6 4 #[.bool true, .bool false, .bool true] hml; clear hS5 hS6)
            | (go_at_call 15; (refine (Now.pcrashRow (pre := []) (bs := [true, false, true]) hS7 1 64 hGc (by omega)).mono ?_); rintro e w7 ⟨rfl, hS8⟩; have hS9 := Now.pushRow hS8 4 #[.bool true, .bool false, .bool true] hml; clear hS7 hS8)
            | (go_at_call 24; (refine (Now.rcrashRow (pre := [_, _]) (bs := [true, false, true]) hS9 1 64 hFc hIc hGr).mono ?_); rintro e w8 ⟨rfl, hS10⟩; have hS11 := Now.drop (pre := []) (Now.drop (pre := []) hS10); clear hS9 hS10)
            | (go_at_call 23; (refine (Same_any gc hc _ _ HX.out hXp _ _ _ _ hS11).mono ?_); rintro e w9 ⟨rfl, hS12⟩; clear hS11)
            | (go_at_call 17; (with_reducible refine (fixed_all _).mono ?_); rintro e w10 ⟨rfl, hB⟩))
          go_ret
          exact ⟨rfl, (Sep.base hS12).trans (hB.mono hS12.size)⟩
end Go.Proofs.Ytofoneapfokdjaa

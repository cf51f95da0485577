/- What the laws of this seat lean on, part 16. -/
import Derived.Test.YthlbciinpidedaaGreatZK10
import Derived.Defers
import Derived.Test.YthlbciinpidedaaGreatZK15
/- A drawn region that may panic in a function that defers: only the operations' own slots must not matter. -/
namespace Go.Proofs.YthlbciinpidedaaGreat
set_option linter.unusedSimpArgs false
set_option linter.unusedVariables false
set_option maxRecDepth 100000
open Go.RowKit

theorem leaves_congr {P : Program} {fn : Func} {tmps tmps' : Array Value} {R : Ending → World → Prop} (h : results fn tmps = results fn tmps') : ∀ (ds : List Deferred) (u : FrameMode) (w : World), Leaves P fn tmps R ds u w → Leaves P fn tmps' R ds u w
  | [], .returning, w, hl => by
    obtain ⟨v, h1, h2⟩ := hl
    exact ⟨v, by rw [← h]; exact h1, h2⟩
  | [], .panicking _, _, hl => hl
  | [], .run, _, hl => hl
  | d :: ds, u, w, ⟨h1, fv, cap, f, args, h2, h3, h4⟩ => ⟨h1, fv, cap, f, args, h2, h3, h4.mono fun e u' w' he => by
      cases e with
      | returned v => exact leaves_congr h ds _ _ he
      | panicked ch => exact leaves_congr h ds _ _ he
      | outgrown => exact he⟩
theorem results1_congr {fn : Func} {p : Tmp} {t : TypeId} (h : fn.results = #[.cell p t]) {tmps tmps' : Array Value} (hp : tmps.getD p undef = tmps'.getD p undef) : results fn tmps = results fn tmps' := by
  have e : tmps[p]?.getD undef = tmps'[p]?.getD undef := by simpa using hp
  simp [results, h, e]
theorem results2_congr {fn : Func} {p q : Tmp} {t u : TypeId} (h : fn.results = #[.cell p t, .cell q u]) {tmps tmps' : Array Value} (hp : tmps.getD p undef = tmps'.getD p undef) (hq : tmps.getD q undef = tmps'.getD q undef) : results fn tmps = results fn tmps' := by
  have e : tmps[p]?.getD undef = tmps'[p]?.getD undef := by simpa using hp
  have e' : tmps[q]?.getD undef = tmps'[q]?.getD undef := by simpa using hq
  simp [results, h, e, e']
theorem put_getD {a : Act} {dst : Option Tmp} {v : Value} {p : Tmp} (h : dst ≠ some p) : (a.put dst v).tmps.getD p undef = a.tmps.getD p undef := by
  cases dst with
  | none => rfl
  | some d =>
    have : d ≠ p := fun e => h (by rw [e])
    simp [Act.put, this]
theorem put_defers' {a : Act} {dst : Option Tmp} {v : Value} : (a.put dst v).defers = a.defers := by cases dst <;> rfl
def SteadyOn (ops : List Oper) (Q : Exit → Act → World → Prop) : Prop := ∀ o ∈ ops, ∀ c (a : Act) v w, Q (.panic c) (a.put o.dst v) w → Q (.panic c) a w
/-- None of them lays slot p. -/
def offSlot (ops : List Oper) (p : Tmp) : Bool := ops.all fun o => o.dst != some p
theorem offSlot_spec {ops : List Oper} {p : Tmp} (h : offSlot ops p = true) {o : Oper} (ho : o ∈ ops) : o.dst ≠ some p := by
  have := List.all_eq_true.1 h o ho
  simpa using this
theorem door1_steady {P : Program} {fn : Func} {R : Ending → World → Prop} {K : Act → World → Prop} {ops : List Oper} {p : Tmp} {t : TypeId} (h : fn.results = #[.cell p t]) (hb : offSlot ops p = true) : SteadyOn ops (Exit.then K (bodyPostD P fn R)) := by
  intro o ho c a v w hq
  have hq : Leaves P fn (a.put o.dst v).tmps R (a.put o.dst v).defers (.panicking c) w := hq
  rw [put_defers'] at hq
  exact leaves_congr (results1_congr h (put_getD (offSlot_spec hb ho))) _ _ _ hq
theorem door2_steady {P : Program} {fn : Func} {R : Ending → World → Prop} {K : Act → World → Prop} {ops : List Oper} {p q : Tmp} {t u : TypeId} (h : fn.results = #[.cell p t, .cell q u]) (hb : offSlot ops p = true) (hb' : offSlot ops q = true) : SteadyOn ops (Exit.then K (bodyPostD P fn R)) := by
  intro o ho c a v w hq
  have hq : Leaves P fn (a.put o.dst v).tmps R (a.put o.dst v).defers (.panicking c) w := hq
  rw [put_defers'] at hq
  exact leaves_congr (results2_congr h (put_getD (offSlot_spec hb ho)) (put_getD (offSlot_spec hb' ho))) _ _ _ hq
section
variable {P : Program} {Q : Exit → Act → World → Prop} {md : Region.Mode} {R E : World → World → Prop}
theorem wpAnyE_takesS (G : Grow2 R E) {T : List Nat} {ops : List Oper} (hs : Region.noSelect ops.toArray = true) (hQ : SteadyOn ops Q) (fuel : Nat) : ∀ (l : List (Nat × Bool)) (listed : Array Bool) (a : Act) (w : World),
    Region.takesB md ops.toArray T l listed = true → wpTakes P md ops Q R E T fuel l listed a w → wpAnyE P md ops.toArray Q R E T (l.length + fuel) listed a w
  | [], listed, a, w, _, h => by simpa [wpTakes] using h
  | (i, p) :: l, listed, a, w, hB, h => by
    simp only [Region.takesB, Bool.and_eq_true, Bool.or_eq_true] at hB
    obtain ⟨o, v, ho, hy, hK⟩ := h
    have ho' : ops.toArray[i]? = some o := by simpa using ho
    rw [show ((i, p) :: l).length + fuel = (l.length + fuel) + 1 by simp; omega]
    exact wpAnyE_first G p ho' (Region.noSelect_spec hs) (fun c a w => hQ o (List.mem_of_getElem? ho) c a v w) (l.length + fuel) listed a w (Region.free_spec ho' hB.1.1.2) (hB.1.2.imp id fun h j oj hj hoj hun => Region.waitB_spec h j oj hj hoj hun) (by simpa using hB.1.1.1) hy (wpAnyE_takesS G hs hQ fuel l _ _ _ hB.2 hK)
theorem wp_region_takesS (G : Grow2 R E) (T : List Nat) (l : List (Nat × Bool)) (fuel : Nat) {id : Nat} {ops : List Oper} {a : Act} {w : World} (hm : P.follows .mixedOrders = true) (hs : Region.noSelect ops.toArray = true)
    (hl : l.length + fuel = ops.length) (hB : Region.takesB .any ops.toArray T l (Array.replicate ops.length false) = true) (hQ : SteadyOn ops Q)
    (h : wpTakes P .any ops Q R E T fuel l (Array.replicate ops.length false) a w.drew) : (Code.region id ops.toArray true).wp P Q a w := by
  refine wp_region_any hm (wpAny_of_E G (T := T) _ _ _ _ ?_)
  have := wpAnyE_takesS G hs hQ fuel l _ a _ hB h
  rw [hl] at this
  simpa using this
end
end Go.Proofs.YthlbciinpidedaaGreat
/- The contract of a log's Checkpoint. -/
namespace Go.Proofs.YthlbciinpidedaaGreat
set_option linter.unusedSimpArgs false
set_option linter.unusedVariables false
set_option maxRecDepth 100000
open Go.RowKit
attribute [local go_sem high] run_mx run_mn

def Tab.chk (T : Tab) (gen epoch lsn ver : Int) : Chk := { gen := gen, epoch := epoch, lsn := lsn, ver := ver, order := T.order, lens := T.lens }
theorem nodup_take {l : List Int} (h : l.Nodup) {k : Nat} {x : Int} (hx : l[k]? = some x) : ¬ x ∈ l.take k := by
  intro hm
  obtain ⟨j, hj⟩ := List.mem_iff_getElem?.1 hm
  have hjk : j < k := by
    rcases Nat.lt_or_ge j k with h | h
    · exact h
    · rw [List.getElem?_eq_none (by simp; omega)] at hj; cases hj
  rw [List.getElem?_take_of_lt hjk] at hj
  obtain ⟨hk1, e1⟩ := List.getElem?_eq_some_iff.1 hx
  obtain ⟨hj1, e2⟩ := List.getElem?_eq_some_iff.1 hj
  exact (List.pairwise_iff_getElem.1 h) j k hj1 hk1 hjk (e2.trans e1.symm)
theorem Tab.chk_right (T : Tab) (hT : T.Ok) (gen epoch lsn ver : Int) (hg : gen ≠ 0) (hl : lsn ≠ 0) : (T.chk gen epoch lsn ver).Right := by
  have hsg := hT.segs
  have hsl := hT.slots
  have hp := hT.pos
  refine ⟨hg, hl, by show T.order.length ≠ 0; omega, hT.many, hT.len, fun k hk => ?_⟩
  have hk' : k < T.order.length := hk
  obtain ⟨x, hx⟩ : ∃ x, T.order[k]? = some x := ⟨_, List.getElem?_eq_getElem hk'⟩
  obtain ⟨y, hy⟩ : ∃ y, T.lens[k]? = some y := ⟨_, List.getElem?_eq_getElem (by have := hT.len; omega)⟩
  have h1 := hT.inn x (List.mem_of_getElem? hx)
  have h2 := hT.lens y (List.mem_of_getElem? hy)
  unfold Chk.at_
  show (0 ≤ T.order[k]?.getD 0 ∧ T.order[k]?.getD 0 < 16) ∧ ¬ (T.order[k]?.getD 0 ∈ T.order.take k) ∧ 0 ≤ T.lens[k]?.getD 0 ∧ T.lens[k]?.getD 0 ≤ 30
  rw [hx, hy]
  show (0 ≤ x ∧ x < 16) ∧ ¬ (x ∈ T.order.take k) ∧ 0 ≤ y ∧ y ≤ 30
  exact ⟨by omega, nodup_take hT.nodup hx, by omega⟩
/-- What a checkpoint makes of the number and the disk, and what it tells. -/
def ckDo (d : Dsk) (gen : Int) (s : ByteArray) : Int × Int × Dsk :=
  if d.flushE ≠ 0 then (d.flushE, gen, d)
  else if d.flushS.writeE ((gen + 1) % 2) s ≠ 0 then (d.flushS.writeE ((gen + 1) % 2) s, gen, d.flushS)
  else if (d.flushS.writeS ((gen + 1) % 2) s).flushE ≠ 0 then ((d.flushS.writeS ((gen + 1) % 2) s).flushE, gen, d.flushS.writeS ((gen + 1) % 2) s)
  else (0, gen + 1, (d.flushS.writeS ((gen + 1) % 2) s).flushS)
/-- A call ended by an error, caught. -/
theorem lcaught_end {fn : Func} {p : Tmp} {w1 : World} {R : Ending → World → Prop} {q : Nat} {x : Int} {a : Act} {S0 : Nat → Prop} {w0 : World} {pre post : List Thing} (hf : fn.results = #[.cell p 30]) (h : Now S0 w0 w1 (pre ++ Thing.cells q 30 #[.int .i64 0] :: post))
    (hd : a.defers = [{ target := .fn (.func 56) #[], args := #[.pointer (some ⟨q, 0, none⟩)] }]) (hp : a.tmps.getD p undef = .pointer (some ⟨q, 0, none⟩))
    (hR : ∀ w', Now S0 w0 w' (pre ++ Thing.cells q 30 #[.int .i64 x] :: post) → R (.returned (.int .i64 x)) w') :
    bodyPostD Tryz.prog fn R (.panic [{ v := stopV x, recovered := false }]) a w1 := by
  obtain ⟨tmps, defers⟩ := a
  cases hd
  refine leaves_cons (f := 56) (args := #[.pointer (some ⟨q, 0, none⟩)]) (by simp) (by simp [go_sem]) ?_
  refine (lcaught_bad q (.int .i64 0) x [] _ (Now.blk h)).mono ?_
  rintro en u' w'' ⟨rfl, rfl, rfl⟩
  have hz := (Now.set_ h 0 (.int .i64 x)).alloc (.cells #[.int .i64 x] 173)
  have ce : _ = some (Value.int .i64 x) := (Now.blk hz).cell 0
  have hp' : tmps[p]?.getD undef = .pointer (some ⟨q, 0, none⟩) := by simpa using hp
  exact ⟨.int .i64 x, by simp [results, hf, hp', asAddr, go_sem, ce, Result.andThen], hR _ hz⟩
theorem lcaught_fine {fn : Func} {p : Tmp} {w1 : World} {R : Ending → World → Prop} {q : Nat} {x : Int} {a : Act} {S0 : Nat → Prop} {w0 : World} {pre post : List Thing} (hf : fn.results = #[.cell p 30]) (h : Now S0 w0 w1 (pre ++ Thing.cells q 30 #[.int .i64 x] :: post))
    (hd : a.defers = [{ target := .fn (.func 56) #[], args := #[.pointer (some ⟨q, 0, none⟩)] }]) (hp : a.tmps.getD p undef = .pointer (some ⟨q, 0, none⟩))
    (hR : ∀ w', Now S0 w0 w' (pre ++ Thing.cells q 30 #[.int .i64 x] :: post) → R (.returned (.int .i64 x)) w') :
    bodyPostD Tryz.prog fn R .ret a w1 := by
  obtain ⟨tmps, defers⟩ := a
  cases hd
  refine leaves_cons (f := 56) (args := #[.pointer (some ⟨q, 0, none⟩)]) (by simp) (by simp [go_sem]) ?_
  refine (lcaught_ok q _).mono ?_
  rintro en u' w'' ⟨rfl, rfl, rfl⟩
  have hz := h.alloc (.cells #[.int .i64 0] 173)
  have ce : _ = some (Value.int .i64 x) := (Now.blk hz).cell 0
  have hp' : tmps[p]?.getD undef = .pointer (some ⟨q, 0, none⟩) := by simpa using hp
  exact ⟨.int .i64 x, by simp [results, hf, hp', asAddr, go_sem, ce, Result.andThen], hR _ hz⟩
theorem flush_pend (d : Dsk) : d.flushS.pend.length ≤ d.pend.length := by
  unfold Dsk.flushS
  split
  · exact Nat.le_refl _
  · exact Nat.zero_le _
theorem write_pend (d : Dsk) (i : Int) (s : ByteArray) : (d.writeS i s).pend.length ≤ d.pend.length + 1 := by
  unfold Dsk.writeS
  split
  · unfold Dsk.write Dsk.use
    simp
  · omega
set_option maxHeartbeats 8000000 in
theorem Checkpoint_any (g gd : Nat) (T : Tab) (hT : T.Ok) (AO : Option Addr) (cO : Nat) (AL : Option Addr) (cL : Nat) (AF : Option Addr) (cF : Nat) (lsn epoch gen ver : Int) (d : Dsk) (hp : d.pend.length ≤ 1000000) (hl : 1 ≤ lsn ∧ lsn < 18446744073709551616) (he : 0 ≤ epoch ∧ epoch < 4294967296) (hg : 0 ≤ gen ∧ gen + 1 < 18446744073709551616) (hv : 0 ≤ ver ∧ ver < 18446744073709551616)
    {S0 : Nat → Prop} {w0 w : World} {L : List Thing} (hS : Now S0 w0 w (logParts g gd T AO cO AL cL AF cF lsn epoch gen d ++ L)) :
    Calls Tryz.prog 44 #[.pointer (some ⟨g, 0, none⟩), .int .u64 ver] w fun e w' =>
      e = .returned (.int .i64 (ckDo d gen ⟨(T.chk (gen + 1) epoch lsn ver).enc.toArray⟩).1) ∧ Now S0 w0 w' (logParts g gd T AO cO AL cL AF cF lsn epoch (ckDo d gen ⟨(T.chk (gen + 1) epoch lsn ver).enc.toArray⟩).2.1 (ckDo d gen ⟨(T.chk (gen + 1) epoch lsn ver).enc.toArray⟩).2.2 ++ L) := by
  have hR := T.chk_right hT (gen + 1) epoch lsn ver (by omega) (by omega)
  have hNm : (T.chk (gen + 1) epoch lsn ver).Nums := ⟨⟨by show 0 ≤ gen + 1; omega, hg.2⟩, he, ⟨by show 0 ≤ lsn; omega, hl.2⟩, hv⟩
  obtain ⟨SC, hSC⟩ : ∃ SC, (⟨(T.chk (gen + 1) epoch lsn ver).enc.toArray⟩ : ByteArray) = SC := ⟨_, rfl⟩
  have hE := fun v (hv : ChkIn v v.heap.size (T.chk (gen + 1) epoch lsn ver) AO AL) => Encode_ok (T.chk (gen + 1) epoch lsn ver) hR hNm AO cO AL cL v hv
  rw [hSC] at hE ⊢
  have hS1 := Now.pushCells hS 30 #[.int .i64 0]
  have hlog := Now.blk (pre := [_]) hS1
  have c0 : _ = some (Value.pointer (some ⟨gd, 0, none⟩)) := hlog.cell 0
  have hfl := Loc.atZ (LFlush gd d (by omega)) [_, _, _, _, _] L hS1
  clear hSC hR hNm hlog
  go_enter_defers Tryz.func44, Tryz.ntmps44
  obtain ⟨e1, h1⟩ : ∃ e1, d.flushE = e1 := ⟨_, rfl⟩
  rw [h1] at hfl
  by_cases z1 : e1 = 0
  case neg =>
    have hck : ckDo d gen SC = (e1, gen, d) := by unfold ckDo; rw [if_pos (by rw [h1]; exact z1), h1]
    have hfs : d.flushS = d := by
      unfold Dsk.flushS
      rw [if_pos]
      unfold Dsk.flushE at h1
      by_cases hd : d.dead = true
      · exact hd
      · rw [if_neg hd] at h1; exact absurd h1.symm z1
    rw [hck]
    have HFS := Lib.hid hfs
    clear hck hE h1 hfs
    go_wp2_with (first
      | (go_at_call 85; (with_reducible refine hfl.mono ?_); rintro e w1 ⟨rfl, hz, hS2⟩; clear hfl hS1 c0)
      | (go_at_call 61; (with_reducible refine (lmust_no _ z1 _).mono ?_); rintro e w2 ⟨rfl, rfl⟩))
    rw [HFS.out] at hS2
    exact lcaught_end (p := 4) rfl (pre := []) hS2 rfl rfl (fun w' h => ⟨rfl, Now.drop (pre := []) h⟩)
  subst z1
  have hck1 : ckDo d gen SC = if d.flushS.writeE ((gen + 1) % 2) SC ≠ 0 then (d.flushS.writeE ((gen + 1) % 2) SC, gen, d.flushS)
      else if (d.flushS.writeS ((gen + 1) % 2) SC).flushE ≠ 0 then ((d.flushS.writeS ((gen + 1) % 2) SC).flushE, gen, d.flushS.writeS ((gen + 1) % 2) SC)
      else (0, gen + 1, (d.flushS.writeS ((gen + 1) % 2) SC).flushS) := by
    unfold ckDo
    rw [if_neg (by rw [h1]; simp)]
  have HCK1 := Lib.hid hck1
  clear hck1 h1
  go_wp2_with (first
    | (go_at_call 85; (with_reducible refine hfl.mono ?_); rintro e w1 ⟨rfl, hz, hS2⟩; clear hfl hS1 c0)
    | (go_at_call 61; (with_reducible refine (lmust_yes _).mono ?_); rintro e w2 ⟨rfl, rfl⟩))
  have hlog := Now.blk (pre := [_]) hS2
  have htab := tabIn_of (pre := [_, _]) hS2
  have hcell : ∀ v, Newer w1.drew v → v.cell? ⟨g, 8, none⟩ = some (.int .u64 gen) ∧ v.cell? ⟨g, 7, none⟩ = some (.int .u32 epoch) ∧ v.cell? ⟨g, 6, none⟩ = some (.int .u64 lsn) ∧ v.cell? ⟨g, 3, none⟩ = some (.slice AO T.order.length cO) ∧ v.cell? ⟨g, 4, none⟩ = some (.slice AL T.lens.length cL) := fun v hv => by
    have hb1 := hlog.below hv.undrew hlog.lt
    exact ⟨hb1.cell 8, hb1.cell 7, hb1.cell 6, hb1.cell 3, hb1.cell 4⟩
  have hE2 : ∀ v, Newer w1.drew v → Calls Tryz.prog 86 #[.agg #[.int .u64 (gen + 1), .int .u32 epoch, .int .u64 lsn, .int .u64 ver, .slice AO T.order.length cO, .slice AL T.lens.length cL]] v fun e w' => e = .returned (.tuple #[.string SC, .int .i64 0]) ∧ Newer v w' := fun v hv =>
    hE v ⟨((htab.below hv.undrew).more hv.size).o, ((htab.below hv.undrew).more hv.size).l⟩
  have hg1 : IntKind.u64.wrap (gen + 1) = gen + 1 := IntWalk.u64_in _ (by omega)
  have hS3 := hS2.drew
  clear hS2 hlog htab hE
  refine wp_region_ordN Newer.grow [(0, true), (1, true), (2, true), (3, true), (4, true), (5, true), (6, true), (7, true), (8, true), (9, true), (10, true), (11, true), (12, true), (13, true), (14, true), (15, true), (16, true), (17, true), (18, true), (19, true), (20, true), (21, true), (22, true), (23, true), (24, true), (25, true), (26, true), (27, true), (28, true), (29, true), (30, true)] [] (by kernel_rfl) (by kernel_rfl) rfl (by kernel_rfl) ?_
  iterate 31
    (apply wpOrd_take
     · exact rfl
     · intro w1 h1
       (obtain ⟨c8, c7, c6, c3, c4⟩ := hcell _ h1)
       go_simp
       first
         | with_reducible exact ⟨rfl, Newer.grow.refl _⟩
         | with_reducible exact hE2 _ h1
     simp only [Act.put, List.setIfInBounds_toArray, List.set_cons_zero, List.set_cons_succ])
  refine wpOrd_done fun w3 h3 => ?_
  refine post_intro ?_
  have hS4 := Now.below hS3 h3
  clear hS3 h3 hcell hE2
  go_wp2_with (go_at_call 61; (with_reducible refine (lmust_yes _).mono ?_); rintro e w2 ⟨rfl, rfl⟩)
  have hlog := Now.blk (pre := [_]) hS4
  have HB : g < w3.drew.heap.size := hlog.lt
  have hcell : ∀ v, KeepG g w3.drew v → v.cell? ⟨g, 0, none⟩ = some (.pointer (some ⟨gd, 0, none⟩)) ∧ v.cell? ⟨g, 8, none⟩ = some (.int .u64 gen) := fun v hv => by
    have hb1 := KeepG.blk (w := w3.drew) hv hlog
    exact ⟨hb1.cell 0, hb1.cell 8⟩
  have hS5 := hS4.drew
  clear hS4 hlog
  have m1 : (gen + 1).tmod 2 = (gen + 1) % 2 := Int.tmod_eq_emod_of_nonneg (by omega)
  have m2 : IntKind.u64.wrap ((gen + 1) % 2) = (gen + 1) % 2 := IntWalk.u64_in _ (by omega)
  have m3 : IntKind.i64.wrap ((gen + 1) % 2) = (gen + 1) % 2 := IntWalk.i64_in _ (by omega)
  refine wp_region_takesS (KeepG.grow g) [] [(0, true), (1, true), (2, true), (3, false), (4, true), (5, true), (6, true), (7, false), (8, true), (9, true), (10, true), (11, true)] 2 (by kernel_rfl) (by kernel_rfl) rfl (by kernel_rfl) (door1_steady (p := 4) rfl (by kernel_rfl)) ?_
  iterate 3
    (apply wpTakes_pure
     · exact rfl
     · intro w1
       skip
       go_simp
       first
         | with_reducible exact ⟨rfl, Newer.grow.refl _⟩
     simp only [Act.put, List.setIfInBounds_toArray, List.set_cons_zero, List.set_cons_succ])
  (apply wpTakes_take
   · exact rfl
   · intro w1v hR1
     (obtain ⟨d0, d8⟩ := hcell _ hR1)
     go_simp
     first
       | with_reducible exact ⟨rfl, Newer.grow.refl _⟩
   simp only [Act.put, List.setIfInBounds_toArray, List.set_cons_zero, List.set_cons_succ])
  iterate 3
    (apply wpTakes_pure
     · exact rfl
     · intro w1
       skip
       go_simp
       first
         | with_reducible exact ⟨rfl, Newer.grow.refl _⟩
     simp only [Act.put, List.setIfInBounds_toArray, List.set_cons_zero, List.set_cons_succ])
  (apply wpTakes_take
   · exact rfl
   · intro w1v hR1
     (obtain ⟨d0, d8⟩ := hcell _ hR1)
     go_simp
     first
       | with_reducible exact ⟨rfl, Newer.grow.refl _⟩
   simp only [Act.put, List.setIfInBounds_toArray, List.set_cons_zero, List.set_cons_succ])
  iterate 4
    (apply wpTakes_pure
     · exact rfl
     · intro w1
       skip
       go_simp
       first
         | with_reducible exact ⟨rfl, Newer.grow.refl _⟩
     simp only [Act.put, List.setIfInBounds_toArray, List.set_cons_zero, List.set_cons_succ])
  refine wpTakes_done ?_
  clear hcell HB
  generalize w3.drew = wc at hS5 ⊢
  have hp2 : d.flushS.pend.length ≤ 1000000000 := by have := flush_pend d; omega
  have hi2 : 0 ≤ (gen + 1) % 2 ∧ (gen + 1) % 2 < 2 := by omega
  refine wpAnyE_fork [12] (by kernel_rfl) (by simp) ?_
  refine List.forall_mem_cons.2 ⟨?_, List.forall_mem_nil _⟩
  refine ⟨_, rfl, ?_⟩
  intro w1 h1 K hK
  replace hS5 := Now.below hS5 h1
  have hwr := Loc.atZ (LWrite gd d.flushS ((gen + 1) % 2) SC hp2) [_, _, _, _, _] L hS5
  go_simp
  go_at_call 87
  refine hwr.mono ?_
  rintro e w8 ⟨rfl, hz, hS9⟩
  refine hK _ _ (fun _ _ => ⟨(Now.blk (pre := [_]) hS9).trans (Now.blk (pre := [_]) hS5).symm, hz⟩) ?_
  clear hK K hwr hS5 hz h1
  clear w1
  try simp only [Act.put, List.setIfInBounds_toArray, List.set_cons_zero, List.set_cons_succ]
  obtain ⟨we, hwe⟩ : ∃ we, d.flushS.writeE ((gen + 1) % 2) SC = we := ⟨_, rfl⟩
  rw [hwe]
  refine wpAnyE_fork [13] (by kernel_rfl) (by simp) ?_
  refine List.forall_mem_cons.2 ⟨?_, List.forall_mem_nil _⟩
  refine ⟨_, rfl, ?_⟩
  intro w1 h1 K hK
  replace hS9 := Now.below hS9 h1
  by_cases z2 : we = 0
  case neg =>
    go_simp
    go_at_call 61
    (with_reducible refine (lmust_no _ z2 _).mono ?_)
    rintro e w9 ⟨rfl, rfl⟩
    have hws : d.flushS.writeS ((gen + 1) % 2) SC = d.flushS := by unfold Dsk.writeS; rw [hwe, if_neg z2]
    rw [hws] at hS9
    have hck : ckDo d gen SC = (we, gen, d.flushS) := by rw [HCK1.out, hwe, if_pos z2]
    exact lcaught_end (p := 4) rfl (pre := []) hS9 rfl rfl (fun w' h => by rw [hck]; exact ⟨rfl, Now.drop (pre := []) h⟩)
  subst z2
  have hck2 : ckDo d gen SC = if (d.flushS.writeS ((gen + 1) % 2) SC).flushE ≠ 0 then ((d.flushS.writeS ((gen + 1) % 2) SC).flushE, gen, d.flushS.writeS ((gen + 1) % 2) SC)
      else (0, gen + 1, (d.flushS.writeS ((gen + 1) % 2) SC).flushS) := by rw [HCK1.out, hwe, if_neg (by simp)]
  have hp3 : (d.flushS.writeS ((gen + 1) % 2) SC).pend.length ≤ 1000000000 := by have := write_pend d.flushS ((gen + 1) % 2) SC; have := flush_pend d; omega
  generalize d.flushS.writeS ((gen + 1) % 2) SC = D at *
  clear hwe HCK1
  go_simp
  go_at_call 61
  (with_reducible refine (lmust_yes _).mono ?_)
  rintro e w9 ⟨rfl, rfl⟩
  refine hK _ _ (fun _ _ => ⟨rfl, Nat.le_refl _⟩) ?_
  clear hK K h1
  refine wpAnyE_end (by kernel_rfl) fun w10 h10 => ?_
  replace hS9 := Now.below hS9 h10
  clear h10
  have c0 : w10.cell? ⟨g, 0, none⟩ = some (.pointer (some ⟨gd, 0, none⟩)) := (Now.blk (pre := [_]) hS9).cell 0
  have hfl := Loc.atZ (LFlush gd D hp3) [_, _, _, _, _] L hS9
  obtain ⟨e3, h3⟩ : ∃ e3, D.flushE = e3 := ⟨_, rfl⟩
  rw [h3] at hfl hck2
  have HCK2 := Lib.hid hck2
  clear hck2
  by_cases z3 : e3 = 0
  case neg =>
    have hfs : D.flushS = D := by
      unfold Dsk.flushS
      rw [if_pos]
      unfold Dsk.flushE at h3
      by_cases hd : D.dead = true
      · exact hd
      · rw [if_neg hd] at h3; exact absurd h3.symm z3
    have HFS := Lib.hid hfs
    clear h3 hfs
    go_wp2_with (first
      | (go_at_call 85; (with_reducible refine hfl.mono ?_); rintro e w11 ⟨rfl, hz, hS10⟩; clear hfl hS9 c0)
      | (go_at_call 61; (with_reducible refine (lmust_no _ z3 _).mono ?_); rintro e w12 ⟨rfl, rfl⟩))
    rw [HFS.out] at hS10
    exact lcaught_end (p := 4) rfl (pre := []) hS10 rfl rfl (fun w' h => by rw [HCK2.out, if_pos z3]; exact ⟨rfl, Now.drop (pre := []) h⟩)
  subst z3
  clear h3
  go_wp2_with (first
    | (go_at_call 85; (with_reducible refine hfl.mono ?_); rintro e w11 ⟨rfl, hz, hS10⟩; clear hfl hS9 c0)
    | (go_at_call 61; (with_reducible refine (lmust_yes _).mono ?_); rintro e w12 ⟨rfl, rfl⟩; have hlog := Now.blk (pre := [_]) hS10; have c8 : w11.cell? ⟨g, 8, none⟩ = some (.int .u64 gen) := hlog.cell 8; have f8 := hlog.frozen 8; have heb := Now.blk (pre := []) hS10; have ce : w11.cell? ⟨w.heap.size, 0, none⟩ = some (.int .i64 0) := heb.cell 0; have fe := heb.frozen 0))
  have hS11 := Now.set_ (pre := []) (Now.set_ (pre := [_]) hS10 8 (.int .u64 (gen + 1))) 0 (.int .i64 0)
  exact lcaught_fine (p := 4) rfl (pre := []) hS11 rfl rfl (fun w' h => by rw [HCK2.out, if_neg (by simp)]; exact ⟨rfl, Now.drop (pre := []) h⟩)
end Go.Proofs.YthlbciinpidedaaGreat
/- The contract of a log's Drop. -/
namespace Go.Proofs.YthlbciinpidedaaGreat
set_option linter.unusedSimpArgs false
set_option linter.unusedVariables false
set_option maxRecDepth 100000
open Go.RowKit
attribute [local go_sem high] run_mx run_mn
set_option maxHeartbeats 8000000 in
theorem LDrop_bad (g gd : Nat) (T : Tab) (hT : T.Ok) (AO : Option Addr) (cO : Nat) (AL : Option Addr) (cL : Nat) (AF : Option Addr) (cF : Nat) (lsn epoch gen seg ver : Int) (d : Dsk) (hl : idx T.order seg < 0 ∨ idx T.order seg = (T.order.length - 1 : Nat))
    {S0 : Nat → Prop} {w0 w : World} {L : List Thing} (hS : Now S0 w0 w (logParts g gd T AO cO AL cL AF cF lsn epoch gen d ++ L)) :
    Calls Tryz.prog 21 #[.pointer (some ⟨g, 0, none⟩), .int .i64 seg, .int .u64 ver] w fun e w' => e = .returned (.int .i64 1) ∧ Now S0 w0 w' (logParts g gd T AO cO AL cL AF cF lsn epoch gen d ++ L) := by
  have hlog := Now.blk (pre := []) hS
  have c1 : _ = some (Value.int .i64 T.segs) := hlog.cell 1
  have c2 : _ = some (Value.int .i64 T.slots) := hlog.cell 2
  have c3 : _ = some (Value.slice AO T.order.length cO) := hlog.cell 3
  have c4 : _ = some (Value.slice AL T.lens.length cL) := hlog.cell 4
  have c5 : _ = some (Value.slice AF T.firsts.length cF) := hlog.cell 5
  have hd := Drop_bad T hT AO cO AL cL AF cF seg w (tabIn_of (pre := [_]) hS) hl
  clear hlog hl
  go_enter Tryz.func21, Tryz.ntmps21
  go_wp2_with (go_at_call 62; (with_reducible refine hd.mono ?_); rintro e w1 ⟨rfl, hB⟩; have hS1 := Lib.hid (Now.alloc (Now.below hS hB) (.cells zeroTab 55)); clear hS hB hd c1 c2 c3 c4 c5)
  go_ret
  exact ⟨rfl, hS1.out⟩
theorem Tab.drop_ok (T : Tab) (hT : T.Ok) (i : Nat) (hi : i + 1 < T.order.length) : (T.drop i).Ok := by
  have h1 := hT.len
  have h2 := hT.fst
  have h3 := hT.many
  have e1 : (T.order.eraseIdx i).length = T.order.length - 1 := by rw [List.length_eraseIdx, if_pos (by omega)]
  have e2 : (T.lens.eraseIdx i).length = T.lens.length - 1 := by rw [List.length_eraseIdx, if_pos (by omega)]
  have e3 : (T.firsts.eraseIdx i).length = T.firsts.length - 1 := by rw [List.length_eraseIdx, if_pos (by omega)]
  refine ⟨hT.segs, hT.slots, ?_, ?_, ?_, ?_, fun s hs => hT.inn s (List.mem_of_mem_eraseIdx hs), hT.nodup.sublist (List.eraseIdx_sublist _ _), fun l hl => hT.lens l (List.mem_of_mem_eraseIdx hl), fun f hf => hT.firsts f (List.mem_of_mem_eraseIdx hf)⟩
  · show 1 ≤ (T.order.eraseIdx i).length; omega
  · show (T.order.eraseIdx i).length ≤ 16; omega
  · show (T.lens.eraseIdx i).length = (T.order.eraseIdx i).length; omega
  · show (T.firsts.eraseIdx i).length = (T.order.eraseIdx i).length; omega
set_option maxHeartbeats 8000000 in
theorem LDrop_ok (g gd : Nat) (T : Tab) (hT : T.Ok) (AO : Option Addr) (cO : Nat) (AL : Option Addr) (cL : Nat) (AF : Option Addr) (cF : Nat) (lsn epoch gen seg ver : Int) (d : Dsk) (hp : d.pend.length ≤ 1000000) (hl : 1 ≤ lsn ∧ lsn < 18446744073709551616) (he : 0 ≤ epoch ∧ epoch < 4294967296) (hg : 0 ≤ gen ∧ gen + 1 < 18446744073709551616) (hv : 0 ≤ ver ∧ ver < 18446744073709551616) (i : Nat) (hx : idx T.order seg = i) (hi : i + 1 < T.order.length)
    {S0 : Nat → Prop} {w0 w : World} {L : List Thing} (hS : Now S0 w0 w (logParts g gd T AO cO AL cL AF cF lsn epoch gen d ++ L)) :
    Calls Tryz.prog 21 #[.pointer (some ⟨g, 0, none⟩), .int .i64 seg, .int .u64 ver] w fun e w' =>
      e = .returned (.int .i64 (ckDo d gen ⟨((T.drop i).chk (gen + 1) epoch lsn ver).enc.toArray⟩).1) ∧ ∃ A1 k1 A2 k2 A3 k3, Now S0 w0 w' (logParts g gd (T.drop i) A1 k1 A2 k2 A3 k3 lsn epoch (ckDo d gen ⟨((T.drop i).chk (gen + 1) epoch lsn ver).enc.toArray⟩).2.1 (ckDo d gen ⟨((T.drop i).chk (gen + 1) epoch lsn ver).enc.toArray⟩).2.2 ++ L) := by
  have hlog := Now.blk (pre := []) hS
  have c1 : _ = some (Value.int .i64 T.segs) := hlog.cell 1
  have c2 : _ = some (Value.int .i64 T.slots) := hlog.cell 2
  have c3 : _ = some (Value.slice AO T.order.length cO) := hlog.cell 3
  have c4 : _ = some (Value.slice AL T.lens.length cL) := hlog.cell 4
  have c5 : _ = some (Value.slice AF T.firsts.length cF) := hlog.cell 5
  have hd := Drop_ok T hT AO cO AL cL AF cF seg w (tabIn_of (pre := [_]) hS) i hx hi
  have hT2 := T.drop_ok hT i hi
  have hck := fun v A1 k1 A2 k2 A3 k3 (h : Now S0 w0 v (logParts g gd (T.drop i) A1 k1 A2 k2 A3 k3 lsn epoch gen d ++ L)) => Checkpoint_any g gd (T.drop i) hT2 A1 k1 A2 k2 A3 k3 lsn epoch gen ver d hp hl he hg hv h
  generalize T.drop i = T2 at *
  clear hlog hx hi hT hT2
  go_enter Tryz.func21, Tryz.ntmps21
  go_wp2_with (go_at_call 62; (with_reducible refine hd.mono ?_); rintro e w1 ⟨A1, k1, A2, k2, A3, k3, rfl, hO⟩; have hS1 := Now.pushCells (Now.pushAll hS hO) 55 (tabCells T2 A1 k1 A2 k2 A3 k3); have hlog := Now.blk (pre := [_, _, _, _]) hS1; have b1 : _ = some (Value.int .i64 T.segs) := hlog.cell 1; have b2 : _ = some (Value.int .i64 T.slots) := hlog.cell 2; have b3 : _ = some (Value.slice AO T.order.length cO) := hlog.cell 3; have b4 : _ = some (Value.slice AL T.lens.length cL) := hlog.cell 4; have b5 : _ = some (Value.slice AF T.firsts.length cF) := hlog.cell 5; have fl := fun k => hlog.frozen k; have hS2 := Lib.hid (Now.set_ (pre := [_, _, _, _]) (Now.set_ (pre := [_, _, _, _]) (Now.set_ (pre := [_, _, _, _]) (Now.set_ (pre := [_, _, _, _]) (Now.set_ (pre := [_, _, _, _]) hS1 1 (.int .i64 T2.segs)) 2 (.int .i64 T2.slots)) 3 (.slice A1 T2.order.length k1)) 4 (.slice A2 T2.lens.length k2)) 5 (.slice A3 T2.firsts.length k3)); clear hS hO hd c1 c2 c3 c4 c5 hlog hS1)
  have hS3 := Now.front (pre := [_, _, _]) (Now.drop (pre := [_, _, _, _]) (Now.drop (pre := [_, _, _, _]) (Now.drop (pre := [_, _, _, _]) (Now.drop (pre := []) hS2.out))))
  go_wp2_with (go_at_call 44; refine (hck _ A1 k1 A2 k2 A3 k3 hS3).mono ?_; rintro e w2 ⟨rfl, hS4⟩)
  go_ret
  exact ⟨rfl, A1, k1, A2, k2, A3, k3, hS4⟩
end Go.Proofs.YthlbciinpidedaaGreat
/- The contract of a log's roll: a Foot, and the next segment opened. -/
namespace Go.Proofs.YthlbciinpidedaaGreat
set_option linter.unusedSimpArgs false
set_option linter.unusedVariables false
set_option maxRecDepth 100000
open Go.RowKit
attribute [local go_sem high] run_mx run_mn
set_option maxHeartbeats 8000000 in
/-- No segment is free. -/
theorem roll_full (g gd : Nat) (T : Tab) (hT : T.Ok) (AO : Option Addr) (cO : Nat) (AL : Option Addr) (cL : Nat) (AF : Option Addr) (cF : Nat) (lsn epoch gen : Int) (d : Dsk) (N : Nat) (hN : T.segs = N) (hf : T.freeTo N = [])
    {S0 : Nat → Prop} {w0 w : World} {L : List Thing} (hS : Now S0 w0 w (logParts g gd T AO cO AL cL AF cF lsn epoch gen d ++ L)) :
    Calls Tryz.prog 58 #[.pointer (some ⟨g, 0, none⟩)] w fun e w' => e = .panicked [{ v := stopV 10, recovered := false }] ∧ Now S0 w0 w' (logParts g gd T AO cO AL cL AF cF lsn epoch gen d ++ L) := by
  have hlog := Now.blk (pre := []) hS
  have c1 : _ = some (Value.int .i64 T.segs) := hlog.cell 1
  have c2 : _ = some (Value.int .i64 T.slots) := hlog.cell 2
  have c3 : _ = some (Value.slice AO T.order.length cO) := hlog.cell 3
  have c4 : _ = some (Value.slice AL T.lens.length cL) := hlog.cell 4
  have c5 : _ = some (Value.slice AF T.firsts.length cF) := hlog.cell 5
  have hr := Roll_any T hT AO cO AL cL AF cF 0 N hN w (tabIn_of (pre := [_]) hS)
  replace hr := hr.mono (R' := fun e w' => e = .returned (.tuple #[.agg zeroTab, .int .i64 10]) ∧ Newer w w') (fun e w' h => h.1 hf)
  clear hlog hN hf
  go_enter Tryz.func58, Tryz.ntmps58
  go_wp2_with (first
    | (go_at_call 103; (with_reducible refine hr.mono ?_); rintro e w1 ⟨rfl, hB⟩; have hS1 := Lib.hid (Now.alloc (Now.below hS hB) (.cells zeroTab 55)); clear hS hB hr c1 c2 c3 c4 c5)
    | (go_at_call 61; (with_reducible refine (lmust_no 10 (by decide) _).mono ?_); rintro e w2 ⟨rfl, rfl⟩))
  exact ⟨rfl, rfl, hS1.out⟩
/-- The Foot that opens segment f. -/
def footR (lsn epoch f : Int) : Rec := { lsn := lsn, epoch := epoch, kind := 3, ver := 0, dl := f, id := ⟨#[]⟩, val := ⟨#[]⟩ }
theorem footR_right (lsn epoch f : Int) (hl : lsn ≠ 0) (hf : f < 16) : (footR lsn epoch f).right = true := by
  have h1 : (lsn == 0) = false := beq_eq_false_iff_ne.2 hl
  unfold Rec.right footR
  simp [h1, hf]
theorem footR_fits (lsn epoch f : Int) (hl : 0 ≤ lsn ∧ lsn < 18446744073709551616) (he : 0 ≤ epoch ∧ epoch < 4294967296) (hf : 0 ≤ f ∧ f < 18446744073709551616) : (footR lsn epoch f).Fits := ⟨hl, he, by show (-9223372036854775808 : Int) ≤ 3 ∧ (3 : Int) ≤ 9223372036854775807; omega, by show (0 : Int) ≤ 0 ∧ (0 : Int) < 18446744073709551616; omega, hf, by show (0 : Nat) ≤ _; omega, by show (0 : Nat) ≤ _; omega⟩
theorem freeTo_in (T : Tab) (k : Nat) (x : Int) (h : x ∈ T.freeTo k) : 0 ≤ x ∧ x < k := by
  unfold Tab.freeTo at h
  obtain ⟨h1, _⟩ := List.mem_filter.1 h
  obtain ⟨i, hi, rfl⟩ := List.mem_map.1 h1
  have := List.mem_range.1 hi
  omega
set_option maxHeartbeats 8000000 in
theorem roll_free (g gd : Nat) (T : Tab) (hT : T.Ok) (AO : Option Addr) (cO : Nat) (AL : Option Addr) (cL : Nat) (AF : Option Addr) (cF : Nat) (lsn epoch gen : Int) (d : Dsk) (hp : d.pend.length ≤ 1000000) (hl : 1 ≤ lsn ∧ lsn + 1 < 18446744073709551616) (he : 0 ≤ epoch ∧ epoch < 4294967296) (N : Nat) (hN : T.segs = N) (f : Int) (l : List Int) (hf : T.freeTo N = f :: l)
    {S0 : Nat → Prop} {w0 w : World} {L : List Thing} (hS : Now S0 w0 w (logParts g gd T AO cO AL cL AF cF lsn epoch gen d ++ L)) :
    Calls Tryz.prog 58 #[.pointer (some ⟨g, 0, none⟩)] w fun e w' =>
      (d.writeE T.at_ (footR lsn epoch f).sector = 0 → e = .returned (.tuple #[]) ∧ ∃ A1 k1 A2 k2 A3 k3, Now S0 w0 w' (logParts g gd (T.roll f (lsn + 1)) A1 k1 A2 k2 A3 k3 (lsn + 1) epoch gen (d.writeS T.at_ (footR lsn epoch f).sector) ++ L)) ∧
      (∀ x, x ≠ 0 → d.writeE T.at_ (footR lsn epoch f).sector = x → e = .panicked [{ v := stopV x, recovered := false }] ∧ Now S0 w0 w' (logParts g gd T AO cO AL cL AF cF lsn epoch gen d ++ L)) := by
  have hlog := Now.blk (pre := []) hS
  have c1 : _ = some (Value.int .i64 T.segs) := hlog.cell 1
  have c2 : _ = some (Value.int .i64 T.slots) := hlog.cell 2
  have c3 : _ = some (Value.slice AO T.order.length cO) := hlog.cell 3
  have c4 : _ = some (Value.slice AL T.lens.length cL) := hlog.cell 4
  have c5 : _ = some (Value.slice AF T.firsts.length cF) := hlog.cell 5
  have hr := Roll_any T hT AO cO AL cL AF cF 0 N hN w (tabIn_of (pre := [_]) hS)
  replace hr := hr.mono (R' := fun e w' => GotTab w w' (T.roll f 0) e) (fun e w' h => h.2 f l hf)
  have hmn := hT.many
  have hlr : (T.roll f 0).order.length = T.order.length + 1 := by simp [Tab.roll]
  have hwr : wrap64 (((T.roll f 0).order.length : Int) - 1) = (T.order.length : Int) := by rw [hlr, IntWalk.wrap64_in _ (by omega)]; omega
  have hlt2 : (T.order.length : Int) < ((T.roll f 0).order.length : Int) := by rw [hlr]; omega
  have HLR := Lib.hid hlr
  clear hlr
  have hf16 : 0 ≤ f ∧ f < 16 := by
    have := freeTo_in T N f (by rw [hf]; simp)
    have := hT.segs
    omega
  have hwf : IntKind.u64.wrap f = f := IntWalk.u64_in _ (by omega)
  have hwl : IntKind.u64.wrap (lsn + 1) = lsn + 1 := IntWalk.u64_in _ (by omega)
  have HN := Lib.hid hN
  have HF := Lib.hid hf
  clear hN hf
  have hmf : ∀ (fn : Fn) (first cap : Array Value) (w : World), (Instr.makeFunc fn first cap).run Tryz.prog w = .ok (.func fn first cap) w := fun _ _ _ _ => rfl
  clear hlog
  go_enter Tryz.func58, Tryz.ntmps58
  go_wp2_with (first
    | (go_at_call 103; (with_reducible refine hr.mono ?_); rintro e w1 ⟨A1, k1, A2, k2, A3, k3, rfl, hO⟩; have hS1 := Now.pushCells (Now.pushAll hS hO) 55 (tabCells (T.roll f 0) A1 k1 A2 k2 A3 k3); have hbx := Now.blk (pre := []) hS1; have b2 : _ = some (Value.slice A1 (T.roll f 0).order.length k1) := hbx.cell 2; have hro := Reads.of_own (Now.row (pre := [_]) hS1); obtain ⟨ad, rfl, hadB, hcx⟩ := read_cell (k := T.order.length) (u := .int .i64 f) hro (by simp [Tab.roll]) (by simp [Tab.roll, ints]); clear hro hadB; clear hbx hS hO hr c1 c2 c3 c4 c5)
    | (go_at_call 61; (with_reducible refine (lmust_yes _).mono ?_); rintro e w2 ⟨rfl, rfl⟩))
  have hS2 : Now S0 w0 _ (logParts g gd T AO cO AL cL AF cF lsn epoch gen d ++ ([Thing.cells w1.heap.size 55 (tabCells (T.roll f 0) (some ad) k1 A2 k2 A3 k3)] ++ tabParts (T.roll f 0) (some ad) k1 A2 k2 A3 k3 ++ L)) := Now.perm hS1 (by
    show List.Perm (([Thing.cells w1.heap.size 55 (tabCells (T.roll f 0) (some ad) k1 A2 k2 A3 k3)] ++ tabParts (T.roll f 0) (some ad) k1 A2 k2 A3 k3) ++ (logParts g gd T AO cO AL cL AF cF lsn epoch gen d ++ L)) _
    rw [← List.append_assoc, ← List.append_assoc]
    exact List.Perm.append_right _ List.perm_append_comm)
  have hw := write_any g gd T hT AO cO AL cL AF cF lsn epoch gen d (by omega) (footR 0 0 f) (footR_fits lsn epoch f (by omega) he (by omega)) (footR_right lsn epoch f (by omega) hf16.2) hS2
  obtain ⟨we, hwe⟩ : ∃ we, d.writeE T.at_ (footR lsn epoch f).sector = we := ⟨_, rfl⟩
  have HWE := Lib.hid hwe
  by_cases z1 : we = 0
  case neg =>
    replace hw := hw.mono (R' := fun e w' => e = .panicked [{ v := stopV we, recovered := false }] ∧ Now S0 w0 w' (logParts g gd T AO cO AL cL AF cF lsn epoch gen d ++ ([Thing.cells w1.heap.size 55 (tabCells (T.roll f 0) (some ad) k1 A2 k2 A3 k3)] ++ tabParts (T.roll f 0) (some ad) k1 A2 k2 A3 k3 ++ L))) (fun e w' h => h.2 we z1 hwe)
    clear hwe hS1 hS2
    go_wp2_with (go_at_call 59; refine hw.mono ?_; rintro e w3 ⟨rfl, hS3⟩)
    refine ⟨rfl, fun h0 => absurd (HWE.out.symm.trans h0) z1, fun x hx h => ⟨by rw [← h, HWE.out], Now.drop (pre := [_, _, _, _, _]) (Now.drop (pre := [_, _, _, _, _]) (Now.drop (pre := [_, _, _, _, _]) (Now.drop (pre := [_, _, _, _, _]) hS3)))⟩⟩
  subst z1
  replace hw := hw.mono (R' := fun e w' => e = .returned (.agg #[.int .i64 T.open_, .int .i64 (T.len T.open_)]) ∧ Now S0 w0 w' (logParts g gd T AO cO AL cL AF cF (IntKind.u64.wrap (lsn + 1)) epoch gen (d.writeS T.at_ (footR lsn epoch f).sector) ++ ([Thing.cells w1.heap.size 55 (tabCells (T.roll f 0) (some ad) k1 A2 k2 A3 k3)] ++ tabParts (T.roll f 0) (some ad) k1 A2 k2 A3 k3 ++ L))) (fun e w' h => h.1 hwe)
  rw [hwl] at hw
  clear hwe hS1 hS2
  go_wp2_with (go_at_call 59; refine hw.mono ?_; rintro e w3 ⟨rfl, hS3⟩)
  have hlog := Now.blk (pre := []) hS3
  have HB : g < w3.drew.heap.size := hlog.lt
  have hcell : ∀ v, KeepG g w3.drew v → v.cell? ⟨g, 1, none⟩ = some (.int .i64 T.segs) ∧ v.cell? ⟨g, 2, none⟩ = some (.int .i64 T.slots) ∧ v.cell? ⟨g, 3, none⟩ = some (.slice AO T.order.length cO) ∧ v.cell? ⟨g, 4, none⟩ = some (.slice AL T.lens.length cL) ∧ v.cell? ⟨g, 5, none⟩ = some (.slice AF T.firsts.length cF) ∧ v.cell? ⟨g, 6, none⟩ = some (.int .u64 (lsn + 1)) := fun v hv => by
    have hb1 := KeepG.blk (w := w3.drew) hv hlog
    exact ⟨hb1.cell 1, hb1.cell 2, hb1.cell 3, hb1.cell 4, hb1.cell 5, hb1.cell 6⟩
  have hS4 := hS3.drew
  clear hS3 hlog hw b2 hcx
  refine wp_region_takesN (KeepG.grow g) [15] [(0, false), (1, false), (2, false), (3, false), (4, false), (5, false), (6, false), (7, false), (8, false)] 8 (by kernel_rfl) (by kernel_rfl) rfl (by kernel_rfl) ?_
  iterate 9
    (apply wpTakes_take
     · exact rfl
     · intro w1v hR1
       (obtain ⟨d1, d2, d3, d4, d5, d6⟩ := hcell _ hR1)
       go_simp
       first
         | with_reducible exact ⟨rfl, Newer.grow.refl _⟩
     simp only [Act.put, List.setIfInBounds_toArray, List.set_cons_zero, List.set_cons_succ])
  refine wpTakes_done ?_
  clear hcell HB
  generalize w1.heap.size = bx at hS4
  clear w1
  generalize w3.drew = wc at hS4 ⊢
  refine wpAnyE_fork [9] (by kernel_rfl) (by simp) ?_
  refine List.forall_mem_cons.2 ⟨?_, List.forall_mem_nil _⟩
  refine ⟨_, rfl, ?_⟩
  intro w1 h1 K hK
  replace hS4 := Now.below hS4 h1
  have hr2 := Roll_any T hT AO cO AL cL AF cF (lsn + 1) N HN.out w1 (tabIn_of (pre := [_]) hS4)
  replace hr2 := hr2.mono (R' := fun e w' => GotTab w1 w' (T.roll f (lsn + 1)) e) (fun e w' h => h.2 f l HF.out)
  go_simp
  go_at_call 103
  refine hr2.mono ?_
  rintro e w5 ⟨B1, l1, B2, l2, B3, l3, rfl, hO⟩
  have hS5 := Now.pushAll hS4 hO
  refine hK _ _ (fun _ _ => ⟨(Now.blk (pre := [_, _, _]) hS5).trans (Now.blk (pre := []) hS4).symm, hO.size⟩) ?_
  clear hK K hr2 hS4 hO h1
  clear w1
  try simp only [Act.put, List.setIfInBounds_toArray, List.set_cons_zero, List.set_cons_succ]
  apply wpAnyE_pure (KeepG.grow g) 10
  · kernel_rfl
  · intro _ _ d _ _ h; cases d <;> exact h
  · exact rfl
  · kernel_rfl
  · intro w1
    go_simp
    exact ⟨rfl, Newer.grow.refl _⟩
  try simp only [Act.put, List.setIfInBounds_toArray, List.set_cons_zero, List.set_cons_succ]
  apply wpAnyE_pure (KeepG.grow g) 11
  · kernel_rfl
  · intro _ _ d _ _ h; cases d <;> exact h
  · exact rfl
  · kernel_rfl
  · intro w1
    go_simp
    exact ⟨rfl, Newer.grow.refl _⟩
  try simp only [Act.put, List.setIfInBounds_toArray, List.set_cons_zero, List.set_cons_succ]
  apply wpAnyE_pure (KeepG.grow g) 12
  · kernel_rfl
  · intro _ _ d _ _ h; cases d <;> exact h
  · exact rfl
  · kernel_rfl
  · intro w1
    go_simp
    exact ⟨rfl, Newer.grow.refl _⟩
  try simp only [Act.put, List.setIfInBounds_toArray, List.set_cons_zero, List.set_cons_succ]
  apply wpAnyE_pure (KeepG.grow g) 13
  · kernel_rfl
  · intro _ _ d _ _ h; cases d <;> exact h
  · exact rfl
  · kernel_rfl
  · intro w1
    go_simp
    exact ⟨rfl, Newer.grow.refl _⟩
  try simp only [Act.put, List.setIfInBounds_toArray, List.set_cons_zero, List.set_cons_succ]
  apply wpAnyE_pure (KeepG.grow g) 14
  · kernel_rfl
  · intro _ _ d _ _ h; cases d <;> exact h
  · exact rfl
  · kernel_rfl
  · intro w1
    go_simp
    exact ⟨rfl, Newer.grow.refl _⟩
  try simp only [Act.put, List.setIfInBounds_toArray, List.set_cons_zero, List.set_cons_succ]
  refine wpAnyE_fork [15] (by kernel_rfl) (by simp) ?_
  refine List.forall_mem_cons.2 ⟨?_, List.forall_mem_nil _⟩
  refine ⟨_, rfl, ?_⟩
  intro w1 h1 K hK
  replace hS5 := Now.below hS5 h1
  have hlog := Now.blk (pre := [_, _, _]) hS5
  have c1 : _ = some (Value.int .i64 T.segs) := hlog.cell 1
  have c2 : _ = some (Value.int .i64 T.slots) := hlog.cell 2
  have c3 : _ = some (Value.slice AO T.order.length cO) := hlog.cell 3
  have c4 : _ = some (Value.slice AL T.lens.length cL) := hlog.cell 4
  have c5 : _ = some (Value.slice AF T.firsts.length cF) := hlog.cell 5
  have fl := fun k => hlog.frozen k
  have hlt := hlog.lt
  go_simp
  refine hK _ _ (fun h => absurd (by simp) h) ?_
  clear hK K
  have hS6 := Lib.hid (Now.set_ (pre := [_, _, _]) (Now.set_ (pre := [_, _, _]) (Now.set_ (pre := [_, _, _]) (Now.set_ (pre := [_, _, _]) (Now.set_ (pre := [_, _, _]) hS5 1 (.int .i64 (T.roll f (lsn + 1)).segs)) 2 (.int .i64 (T.roll f (lsn + 1)).slots)) 3 (.slice B1 (T.roll f (lsn + 1)).order.length l1)) 4 (.slice B2 (T.roll f (lsn + 1)).lens.length l2)) 5 (.slice B3 (T.roll f (lsn + 1)).firsts.length l3))
  clear hlog c1 c2 c3 c4 c5 fl hlt hS5
  generalize ((((w1.setCell ⟨g, 1, none⟩ (.int .i64 (T.roll f (lsn + 1)).segs)).setCell ⟨g, 2, none⟩ (.int .i64 (T.roll f (lsn + 1)).slots)).setCell ⟨g, 3, none⟩ (.slice B1 (T.roll f (lsn + 1)).order.length l1)).setCell ⟨g, 4, none⟩ (.slice B2 (T.roll f (lsn + 1)).lens.length l2)).setCell ⟨g, 5, none⟩ (.slice B3 (T.roll f (lsn + 1)).firsts.length l3) = w6 at hS6 ⊢
  clear h1 w1
  apply wpAnyE_pure (KeepG.grow g) 16
  · kernel_rfl
  · intro _ _ d _ _ h; cases d <;> exact h
  · exact rfl
  · kernel_rfl
  · intro w1
    go_simp
    exact ⟨rfl, Newer.grow.refl _⟩
  try simp only [Act.put, List.setIfInBounds_toArray, List.set_cons_zero, List.set_cons_succ]
  refine wpAnyE_end (by kernel_rfl) fun w10 h10 => ?_
  refine post_intro ?_
  have hS7 := Now.below hS6.out h10
  clear h10 hS6
  go_wp2_with (go_at_call 61; (with_reducible refine (lmust_yes _).mono ?_); rintro e w2 ⟨rfl, rfl⟩)
  go_end0
  exact ⟨fun _ => ⟨rfl, B1, l1, B2, l2, B3, l3, Now.front (pre := [_, _, _]) (Now.drop (pre := [_, _, _, _, _]) (Now.drop (pre := [_, _, _, _, _]) (Now.drop (pre := [_, _, _, _, _]) (Now.drop (pre := [_, _, _, _, _]) (Now.drop (pre := [_, _, _, _]) (Now.drop (pre := [_, _, _, _]) (Now.drop (pre := [_, _, _, _]) hS7)))))))⟩, fun x hx h => absurd (h.symm.trans HWE.out) hx⟩
end Go.Proofs.YthlbciinpidedaaGreat
/- The contract of a log's Seal. -/
namespace Go.Proofs.YthlbciinpidedaaGreat
set_option linter.unusedSimpArgs false
set_option linter.unusedVariables false
set_option maxRecDepth 100000
open Go.RowKit
attribute [local go_sem high] run_mx run_mn
/-- What a roll makes of a log: the error, the table, the next LSN, the disk. -/
def rollE (d : Dsk) (T : Tab) (lsn epoch f : Int) : Int := d.writeE T.at_ (footR lsn epoch f).sector
structure LSt where
  T : Tab
  lsn : Int
  gen : Int
  d : Dsk
def LSt.seal (s : LSt) (epoch : Int) : Int × LSt :=
  match s.T.freeTo s.T.segs.toNat with
  | [] => (10, s)
  | f :: _ => if rollE s.d s.T s.lsn epoch f = 0 then (0, ⟨s.T.roll f (s.lsn + 1), s.lsn + 1, s.gen, s.d.writeS s.T.at_ (footR s.lsn epoch f).sector⟩) else (rollE s.d s.T s.lsn epoch f, s)
def LSt.parts (s : LSt) (g gd : Nat) (epoch : Int) (AO : Option Addr) (cO : Nat) (AL : Option Addr) (cL : Nat) (AF : Option Addr) (cF : Nat) : List Thing := logParts g gd s.T AO cO AL cL AF cF s.lsn epoch s.gen s.d
structure LSt.Ok (s : LSt) : Prop where
  t : s.T.Ok
  lsn : 1 ≤ s.lsn ∧ s.lsn < 1000000
  gen : 0 ≤ s.gen ∧ s.gen < 1000000
  pend : s.d.pend.length ≤ 100000
theorem Tab.Ok.segsN {T : Tab} (h : T.Ok) : T.segs = (T.segs.toNat : Nat) := by have := h.segs; omega
/-- A roll, whatever comes of it. -/
theorem roll_any (s : LSt) (hs : s.Ok) (g gd : Nat) (epoch : Int) (he : 0 ≤ epoch ∧ epoch < 4294967296) (AO : Option Addr) (cO : Nat) (AL : Option Addr) (cL : Nat) (AF : Option Addr) (cF : Nat)
    {S0 : Nat → Prop} {w0 w : World} {L : List Thing} (hS : Now S0 w0 w (s.parts g gd epoch AO cO AL cL AF cF ++ L)) :
    Calls Tryz.prog 58 #[.pointer (some ⟨g, 0, none⟩)] w fun e w' =>
      ((s.seal epoch).1 = 0 → e = .returned (.tuple #[]) ∧ ∃ A1 k1 A2 k2 A3 k3, Now S0 w0 w' ((s.seal epoch).2.parts g gd epoch A1 k1 A2 k2 A3 k3 ++ L)) ∧
      (∀ x, x ≠ 0 → (s.seal epoch).1 = x → e = .panicked [{ v := stopV x, recovered := false }] ∧ Now S0 w0 w' ((s.seal epoch).2.parts g gd epoch AO cO AL cL AF cF ++ L)) := by
  obtain ⟨T, lsn, gen, d⟩ := s
  have hN := hs.t.segsN
  have hT := hs.t
  have hl := hs.lsn
  have hp := hs.pend
  cases hf : T.freeTo T.segs.toNat with
  | nil =>
    have e : LSt.seal ⟨T, lsn, gen, d⟩ epoch = (10, ⟨T, lsn, gen, d⟩) := by unfold LSt.seal; dsimp only; rw [hf]
    rw [e]
    exact (roll_full g gd T hT AO cO AL cL AF cF lsn epoch gen d _ hN hf hS).mono fun e w' h => ⟨fun h0 => absurd (show (10 : Int) = 0 from h0) (by decide), fun x _ hx => by subst hx; exact h⟩
  | cons f l =>
    have e : LSt.seal ⟨T, lsn, gen, d⟩ epoch = if rollE d T lsn epoch f = 0 then (0, ⟨T.roll f (lsn + 1), lsn + 1, gen, d.writeS T.at_ (footR lsn epoch f).sector⟩) else (rollE d T lsn epoch f, ⟨T, lsn, gen, d⟩) := by unfold LSt.seal; dsimp only; rw [hf]
    rw [e]
    refine (roll_free g gd T hT AO cO AL cL AF cF lsn epoch gen d (by show d.pend.length ≤ _; exact Nat.le_trans hp (by decide)) ⟨hl.1, by have h2 : lsn < 1000000 := hl.2; omega⟩ he _ hN f l hf hS).mono fun e w' h => ?_
    by_cases h0 : rollE d T lsn epoch f = 0
    · rw [if_pos h0]
      exact ⟨fun _ => h.1 h0, fun x hx h1 => absurd h1.symm hx⟩
    · rw [if_neg h0]
      exact ⟨fun h1 => absurd h1 h0, fun x hx h1 => h.2 x hx h1⟩
set_option maxHeartbeats 8000000 in
theorem Seal_any (s : LSt) (hs : s.Ok) (g gd : Nat) (epoch : Int) (he : 0 ≤ epoch ∧ epoch < 4294967296) (AO : Option Addr) (cO : Nat) (AL : Option Addr) (cL : Nat) (AF : Option Addr) (cF : Nat)
    {S0 : Nat → Prop} {w0 w : World} {L : List Thing} (hS : Now S0 w0 w (s.parts g gd epoch AO cO AL cL AF cF ++ L)) :
    Calls Tryz.prog 19 #[.pointer (some ⟨g, 0, none⟩)] w fun e w' => e = .returned (.int .i64 (s.seal epoch).1) ∧ ∃ A1 k1 A2 k2 A3 k3, Now S0 w0 w' ((s.seal epoch).2.parts g gd epoch A1 k1 A2 k2 A3 k3 ++ L) := by
  have hS1 := Now.back (pre := s.parts g gd epoch AO cO AL cL AF cF) (Now.pushCells hS 30 #[.int .i64 0])
  have hr := roll_any s hs g gd epoch he AO cO AL cL AF cF hS1
  generalize s.seal epoch = r at *
  obtain ⟨x, s'⟩ := r
  clear hS hS1 hs
  go_enter_defers Tryz.func19, Tryz.ntmps19
  by_cases h0 : x = 0
  · subst h0
    replace hr := hr.mono (fun e w' h => h.1 rfl)
    go_wp2_with (go_at_call 58; refine hr.mono ?_; rintro e w1 ⟨rfl, A1, k1, A2, k2, A3, k3, hS2⟩; have heb := Now.blk hS2; have ce : w1.cell? ⟨w.heap.size, 0, none⟩ = some (.int .i64 0) := heb.cell 0; have fe := heb.frozen 0; clear hr heb)
    have hS3 := Now.set_ hS2 0 (.int .i64 0)
    exact lcaught_fine (p := 2) rfl hS3 rfl rfl (fun w' h => ⟨rfl, A1, k1, A2, k2, A3, k3, Now.drop h⟩)
  · replace hr := hr.mono (fun e w' h => h.2 x h0 rfl)
    go_wp2_with (go_at_call 58; refine hr.mono ?_; rintro e w1 ⟨rfl, hS2⟩; clear hr)
    exact lcaught_end (p := 2) rfl hS2 rfl rfl (fun w' h => ⟨rfl, AO, cO, AL, cL, AF, cF, Now.drop h⟩)
end Go.Proofs.YthlbciinpidedaaGreat

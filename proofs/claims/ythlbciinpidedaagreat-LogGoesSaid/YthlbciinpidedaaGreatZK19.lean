/- What the laws of this seat lean on, part 19. -/
import Derived.Test.YthlbciinpidedaaGreatZK18
import Derived.Test.YthlbciinpidedaaGreatZK2
import Derived.Test.YthlbciinpidedaaGreatZK15
import Derived.Test.YthlbciinpidedaaGreatZK12
/- law09's made and live. -/
namespace Go.Proofs.YthlbciinpidedaaGreat
set_option linter.unusedSimpArgs false
set_option linter.unusedVariables false
set_option maxRecDepth 100000
open Go.RowKit
attribute [local go_sem high] run_mx run_mn
theorem results_tmp3 {fn : Func} {t u v : Tmp} (h : fn.results = #[.tmp t, .tmp u, .tmp v]) (tmps : Array Value) (P : Program) (w : World) :
    (results fn tmps).run P w = .ok (.tuple #[tmps.getD t undef, tmps.getD u undef, tmps.getD v undef]) w := by
  simp [results, h]
def fmtD (n : Int) (s : ByteArray) : Dsk := (((newDsk n).flushS).writeS 1 s).flushS
theorem ckDo_new (n : Int) (hn : 2 ≤ n) (s : ByteArray) (hs : s.size = 128) : ckDo (newDsk n) 0 s = (0, 1, fmtD n s) := by
  have e1 : (newDsk n).flushE = 0 := rfl
  have e2 : ((newDsk n).flushS).writeE 1 s = 0 := by
    unfold Dsk.writeE
    rw [if_pos (by show (0 : Int) ≤ 1 ∧ 1 < n; omega), if_pos hs]
    rfl
  have e3 : (((newDsk n).flushS).writeS 1 s).flushE = 0 := by
    unfold Dsk.writeS
    rw [e2, if_pos rfl]
    rfl
  unfold ckDo
  have e0 : ((0 : Int) + 1) % 2 = 1 := rfl
  rw [e0, e1, e2, e3]
  rfl
theorem lists_length (C : Chk) (b : List UInt8) : ∀ k, (C.lists b k).length = b.length
  | 0 => rfl
  | k + 1 => by
    show (((C.lists b k).set _ _).set _ _).length = _
    rw [List.length_set, List.length_set, lists_length C b k]
theorem head_length (C : Chk) : C.head.length = 128 := by
  unfold Chk.head
  have h0 : (List.replicate 128 (0 : UInt8)).length = 128 := List.length_replicate
  have h1 := laidAt_length (List.replicate 128 (0 : UInt8)) 0 (leB C.gen 8) (by rw [leB_len, h0]; omega)
  have h2 := laidAt_length (laidAt (List.replicate 128 (0 : UInt8)) 0 (leB C.gen 8)) 8 (leB C.epoch 4) (by rw [leB_len, h1, h0]; omega)
  have h3 := laidAt_length (laidAt (laidAt (List.replicate 128 (0 : UInt8)) 0 (leB C.gen 8)) 8 (leB C.epoch 4)) 12 (leB C.lsn 8) (by rw [leB_len, h2, h1, h0]; omega)
  have h4 := laidAt_length (laidAt (laidAt (laidAt (List.replicate 128 (0 : UInt8)) 0 (leB C.gen 8)) 8 (leB C.epoch 4)) 12 (leB C.lsn 8)) 20 (leB C.ver 8) (by rw [leB_len, h3, h2, h1, h0]; omega)
  rw [List.length_set, h4, h3, h2, h1, h0]
theorem enc_length (C : Chk) : C.enc.length = 128 := by
  have hb : C.body.length = 128 := by unfold Chk.body; rw [lists_length, head_length]
  unfold Chk.enc
  have h1 := laidAt_length C.body 116 (leB (crcOf (C.body.take 116)) 4) (by rw [leB_len, hb]; omega)
  have h2 := laidAt_length (laidAt C.body 116 (leB (crcOf (C.body.take 116)) 4)) 120 (leB C.gen 8) (by rw [leB_len, h1, hb]; omega)
  rw [h2, h1, hb]
theorem enc_size (C : Chk) : (⟨C.enc.toArray⟩ : ByteArray).size = 128 := by
  show C.enc.toArray.size = 128
  rw [List.size_toArray, enc_length]
theorem New_sep (n : Int) (w : World) (h : 1 ≤ n) (h' : n ≤ 4096) :
    Calls Tryz.prog 53 #[.int .i64 n] w fun e w' => ∃ gd, e = .returned (.tuple #[.pointer (some ⟨gd, 0, none⟩), .int .i64 0]) ∧ Sep w w' [dskT gd (newDsk n)] :=
  (New_ok n w h h').mono fun e w' ⟨he, hd, hb⟩ => ⟨w.heap.size + 1, he, Now.push (Sep.start w) hb (S' := foot (w.heap.size + 1) w.heap.size (.slice none 0 0)) ⟨_, _, hd, fun _ => Iff.rfl⟩ (fun k hk => by
    rcases hk with rfl | rfl | hk
    · omega
    · omega
    · simp [Value.ownBlock] at hk)⟩
def madeD (n : Int) (c : Cnf) : Dsk := fmtD n ⟨(fmtC c).enc.toArray⟩
set_option maxHeartbeats 8000000 in
theorem made_ok (n : Int) (c : Cnf) (hb : c.share < 18446744073709551616) (hm : c.may = true) (hn : c.sectors ≤ n) (hn2 : n ≤ 4096) (w : World) :
    Calls Tryz.prog 13 #[.int .i64 n, .agg c.cells] w fun e w' => ∃ g gd, e = .returned (.tuple #[.pointer (some ⟨g, 0, none⟩), .pointer (some ⟨gd, 0, none⟩), .int .i64 0]) ∧ ∃ A1 k1 A2 k2 A3 k3, Sep w w' (logParts g gd (newTab c.segs c.slots 1) A1 k1 A2 k2 A3 k3 1 1 1 (madeD n c)) := by
  obtain ⟨hs1, hs2⟩ := Cnf.may_in hm
  have h8 : 2 ≤ n := by
    have h1 := sec_bound c.segs c.slots hs1 hs2
    unfold Cnf.sectors at hn
    rw [if_pos hm] at hn
    omega
  have hT := newTab_ok c.segs c.slots 1 hs1 hs2 (by omega)
  have hck := ckDo_new n h8 ⟨(fmtC c).enc.toArray⟩ (enc_size _)
  have hfm := fun gd v (h : Now (fun _ => False) w v (dskT gd (newDsk n) :: [Thing.cells w.heap.size 24 c.cells])) => Format_ok gd (newDsk n) (by show 0 ≤ 1000000; omega) c hb hm hn _ hck h
  have hnw := fun v => New_sep n v (by omega) hn2
  have hS := Now.pushCells (Sep.start w) 24 c.cells
  change ∀ gd v, _ → Calls _ _ _ _ fun e w' => ∃ g, _ ∧ ∃ A1 k1 A2 k2 A3 k3, Now _ _ _ (logParts _ _ _ _ _ _ _ _ _ _ _ _ (madeD n c) ++ _) at hfm
  clear hck hT hs1 hs2 h8
  go_enter Tryz.func13, Tryz.ntmps13
  go_wp2_with (first
    | (go_at_call 53; (with_reducible refine (hnw _).mono ?_); rintro e w1 ⟨gd, rfl, hO⟩; have hS1 := Now.pushAll hS hO; have hc := Now.blk (pre := [_]) hS1; have c0 : w1.cell? ⟨w.heap.size, 0, none⟩ = some (Value.int .i64 c.segs) := hc.cell 0; have c1 : w1.cell? ⟨w.heap.size, 1, none⟩ = some (Value.int .i64 c.slots) := hc.cell 1; have c2 : w1.cell? ⟨w.heap.size, 2, none⟩ = some (Value.float .f64 c.share) := hc.cell 2; have c3 : w1.cell? ⟨w.heap.size, 3, none⟩ = some (Value.int .i64 c.rate) := hc.cell 3; clear hS hO hnw hc)
    | (go_at_call 54; refine (hfm gd _ hS1).mono ?_; rintro e w2 ⟨g, rfl, A1, k1, A2, k2, A3, k3, hS2⟩; clear hfm hS1 c0 c1 c2 c3))
  refine bodyPost_ret (v := .tuple #[.pointer (some ⟨g, 0, none⟩), .pointer (some ⟨gd, 0, none⟩), .int .i64 0]) ?_ rfl ⟨g, gd, rfl, A1, k1, A2, k2, A3, k3, Now.drop (pre := [_, _, _, _, _]) hS2⟩
  rw [results_tmp3 rfl]
  simp
set_option maxHeartbeats 8000000 in
theorem made_full (n : Int) (c : Cnf) (hb : c.share < 18446744073709551616) (hm : c.may = true) (hn : n < c.sectors) (hn1 : 1 ≤ n) (hn2 : n ≤ 4096) (w : World) :
    Calls Tryz.prog 13 #[.int .i64 n, .agg c.cells] w fun e w' => ∃ gd, e = .returned (.tuple #[.pointer none, .pointer (some ⟨gd, 0, none⟩), .int .i64 10]) ∧ Newer w w' := by
  have hfm := fun gd v (h : Now (fun _ => False) w v (dskT gd (newDsk n) :: [Thing.cells w.heap.size 24 c.cells])) => Format_full gd (newDsk n) c hb hm hn h
  have hnw := fun v => New_sep n v hn1 hn2
  have hS := Now.pushCells (Sep.start w) 24 c.cells
  go_enter Tryz.func13, Tryz.ntmps13
  go_wp2_with (first
    | (go_at_call 53; (with_reducible refine (hnw _).mono ?_); rintro e w1 ⟨gd, rfl, hO⟩; have hS1 := Now.pushAll hS hO; have hc := Now.blk (pre := [_]) hS1; have c0 : w1.cell? ⟨w.heap.size, 0, none⟩ = some (Value.int .i64 c.segs) := hc.cell 0; have c1 : w1.cell? ⟨w.heap.size, 1, none⟩ = some (Value.int .i64 c.slots) := hc.cell 1; have c2 : w1.cell? ⟨w.heap.size, 2, none⟩ = some (Value.float .f64 c.share) := hc.cell 2; have c3 : w1.cell? ⟨w.heap.size, 3, none⟩ = some (Value.int .i64 c.rate) := hc.cell 3; clear hS hO hnw hc)
    | (go_at_call 54; refine (hfm gd _ hS1).mono ?_; rintro e w2 ⟨rfl, hS2⟩; clear hfm hS1 c0 c1 c2 c3))
  refine bodyPost_ret (v := .tuple #[.pointer none, .pointer (some ⟨gd, 0, none⟩), .int .i64 10]) ?_ rfl ⟨gd, rfl, Sep.base hS2⟩
  rw [results_tmp3 rfl]
  simp
set_option maxHeartbeats 8000000 in
theorem made_arg (n : Int) (c : Cnf) (hb : c.share < 18446744073709551616) (hm : c.may = false) (hn1 : 1 ≤ n) (hn2 : n ≤ 4096) (w : World) :
    Calls Tryz.prog 13 #[.int .i64 n, .agg c.cells] w fun e w' => ∃ gd, e = .returned (.tuple #[.pointer none, .pointer (some ⟨gd, 0, none⟩), .int .i64 1]) ∧ Newer w w' := by
  have hfm := fun gd v (h : Now (fun _ => False) w v (dskT gd (newDsk n) :: [Thing.cells w.heap.size 24 c.cells])) => Format_arg gd (newDsk n) c hb hm h
  have hnw := fun v => New_sep n v hn1 hn2
  have hS := Now.pushCells (Sep.start w) 24 c.cells
  go_enter Tryz.func13, Tryz.ntmps13
  go_wp2_with (first
    | (go_at_call 53; (with_reducible refine (hnw _).mono ?_); rintro e w1 ⟨gd, rfl, hO⟩; have hS1 := Now.pushAll hS hO; have hc := Now.blk (pre := [_]) hS1; have c0 : w1.cell? ⟨w.heap.size, 0, none⟩ = some (Value.int .i64 c.segs) := hc.cell 0; have c1 : w1.cell? ⟨w.heap.size, 1, none⟩ = some (Value.int .i64 c.slots) := hc.cell 1; have c2 : w1.cell? ⟨w.heap.size, 2, none⟩ = some (Value.float .f64 c.share) := hc.cell 2; have c3 : w1.cell? ⟨w.heap.size, 3, none⟩ = some (Value.int .i64 c.rate) := hc.cell 3; clear hS hO hnw hc)
    | (go_at_call 54; refine (hfm gd _ hS1).mono ?_; rintro e w2 ⟨rfl, hS2⟩; clear hfm hS1 c0 c1 c2 c3))
  refine bodyPost_ret (v := .tuple #[.pointer none, .pointer (some ⟨gd, 0, none⟩), .int .i64 1]) ?_ rfl ⟨gd, rfl, Sep.base hS2⟩
  rw [results_tmp3 rfl]
  simp
def liveR (id : ByteArray) (ver : Int) : Rec := { lsn := 0, epoch := 0, kind := 1, ver := ver, dl := 9, id := id, val := ⟨#[118]⟩ }
set_option maxHeartbeats 2000000 in
theorem live_any (id : ByteArray) (ver : Int) (w : World) : Calls Tryz.prog 18 #[.string id, .int .u64 ver] w fun e w' => e = .returned (liveR id ver).value ∧ Newer w w' := by
  have hS2 := Lib.hid (Now.pushCells (Sep.start w) 42 #[.int .u64 0, .int .u32 0, .int .i64 1, .int .u64 ver, .int .u64 9, .string id, .string ⟨#[118]⟩])
  go_enter Tryz.func18, Tryz.ntmps18
  go_wp2_with fail
  refine bodyPost_ret (v := (liveR id ver).value) ?_ rfl ⟨rfl, Sep.base hS2.out⟩
  exact results_cell_row rfl _ _ _ _ _ (0, 0) _ (by simp) (Now.blk (pre := []) hS2.out) Tryz.underlying42 rfl (by kernel_rfl)
set_option maxHeartbeats 2000000 in
theorem LRef_any (T : Tab) (AO : Option Addr) (cO : Nat) (AL : Option Addr) (cL : Nat) (AF : Option Addr) (cF : Nat) (w : World) :
    Calls Tryz.prog 26 #[.agg (tabCells T AO cO AL cL AF cF)] w fun e w' => e = .returned (.agg (tabCells T AO cO AL cL AF cF)) ∧ Newer w w' := by
  have hS2 := Now.pushCells (Now.pushCells (Sep.start w) 55 (tabCells T AO cO AL cL AF cF)) 60 (tabCells T AO cO AL cL AF cF)
  simp only [World.size_alloc] at hS2
  replace hS2 := Lib.hid hS2
  go_enter Tryz.func26, Tryz.ntmps26
  go_wp2_with fail
  refine bodyPost_ret (v := .agg (tabCells T AO cO AL cL AF cF)) ?_ rfl ⟨rfl, Sep.base hS2.out⟩
  exact results_cell_row rfl _ _ _ _ _ (0, 0) _ (by simp) (Now.blk (pre := []) hS2.out) Tryz.underlying60 rfl (by kernel_rfl)
end Go.Proofs.YthlbciinpidedaaGreat
/- word.Get of a longer text: its first eight bytes. -/
namespace Go.Proofs.YthlbciinpidedaaGreat
set_option linter.unusedSimpArgs false
set_option linter.unusedVariables false
set_option maxRecDepth 100000
open Go.RowKit Go.Lib
section
variable {P : Program} (w : World) {ops : Array Oper} {rest : List Oper} {o : Oper} {a : Act} {Q : Exit → Act → World → Prop}
theorem copy_cut (dT sT ty elem : TypeId) (d : Option Addr) (dLen dCap : Nat) (s : ByteArray) (hu : P.underlying dT = some (.slice elem)) (hle : dLen ≤ s.size) :
    (Builtin.copy_ #[dT, sT] ty #[.slice d dLen dCap, .string s]).run P w = (Builtin.copy_ #[dT, sT] ty #[.slice d dLen dCap, .string (s.extract 0 dLen)]).run P w := by
  have h1 : Nat.min s.size dLen = dLen := Nat.min_eq_right hle
  have h2 : (s.extract 0 dLen).size = dLen := by rw [ByteArray.size_extract]; omega
  have h4 : Nat.min dLen dLen = dLen := Nat.min_self _
  have h3 : (s.extract 0 dLen).extract 0 dLen = s.extract 0 dLen := by
    apply ByteArray.ext
    simp [ByteArray.data_extract]
  simp only [Builtin.copy_, Builtin.lenOf, Builtin.firstCells, List.getElem?_toArray, List.getElem?_cons_zero, List.getElem?_cons_succ, Sem.run_bind, run_underlying hu, Result.andThen_ok, Sem.run_pure, h1, h2, h3, h4]
theorem wpList_copyCut (hgd : o.guard = none) {dT sT e : TypeId} {d x : Operand} (hop : o.op = .call { callee := .builtin .copy, args := #[d, x], argTypes := #[dT, sT] }) (hu : P.underlying dT = some (.slice e)) (hz : ∀ w, (Go.sizeOf e).run P w = .ok 1 w)
    {g n cap : Nat} {l : List UInt8} {s t : ByteArray} (hb : ByteBlk w g l) (hd : a.eval d = .slice (some ⟨g, 0, none⟩) n cap) (hx : a.eval x = .string s) (hc : s.extract 0 n = t) (hns : n ≤ s.size) (hl : t.size ≤ l.length)
    (h : ∀ w', ByteBlk w' g (t.data.toList ++ l.drop t.size) → w.grownBy w' (some g) → w'.heap.size = w.heap.size → wpList P ops Q rest (a.put o.dst (goInt t.size)) w') : wpList P ops Q (o :: rest) a w := by
  have hn : t.size ≤ n := by rw [← hc, ByteArray.size_extract]; omega
  have hr1 := run_copy_string (P := P) w dT sT o.type e g 0 n cap t hu hz hn (fun j hj => by rw [Nat.zero_add, hb.cell j (by omega)]; rfl) (fun j hj => by rw [Nat.zero_add]; exact hb.free j (by omega))
  have hrun := copy_cut (P := P) w dT sT o.type e (some ⟨g, 0, none⟩) n cap s hu hns
  rw [hc, hr1] at hrun
  have htl : t.data.toList.length = t.size := by rw [Array.length_toList]; rfl
  have hlen : (t.data.toList.map fun x => Value.int .u8 (x.toNat : Int)).length = t.size := by rw [List.length_map, htl]
  have hsz : ∀ (vs : List Value) (o : Nat) (w : World), (w.setCells g o vs).heap.size = w.heap.size := by
    intro vs
    induction vs with
    | nil => intro o w; rfl
    | cons v vs ih => intro o w; rw [World.setCells, ih]; simp [World.setCell]
  have hkeep : ∀ (vs : List Value) (o : Nat) (w : World), w.grownBy (w.setCells g o vs) (some g) := by
    intro vs
    induction vs with
    | nil => intro o w; exact World.grownBy.refl _ _
    | cons v vs ih =>
      intro o w
      rw [World.setCells]
      exact World.grownBy.trans (b := w.setCell ⟨g, o, none⟩ v) ⟨rfl, rfl, rfl, by simp [World.setCell], fun k _ hk => Below.heap_setCell w ⟨g, o, none⟩ v k (fun e => hk (by rw [e]))⟩ (ih (o + 1) _)
  have hfz : ∀ (vs : List Value) (o : Nat) (w : World) (p : Addr), (w.setCells g o vs).frozen? p = w.frozen? p := by
    intro vs
    induction vs with
    | nil => intro o w p; rfl
    | cons v vs ih => intro o w p; rw [World.setCells, ih]; simp
  refine wpList_value w hgd (v := goInt t.size) (w' := w.setCells g 0 (t.data.toList.map fun x => Value.int .u8 (x.toNat : Int))) (by simp only [execOp, hop, resolve, invoke, builtin, Sem.run_bind, Sem.run_pure, Result.andThen_ok, List.map_toArray, List.map_cons, List.map_nil, hd, hx, hrun]) (h _ ⟨fun j hj => ?_, fun j hj => ?_⟩ (hkeep _ _ _) (hsz _ _ _))
  · by_cases hjt : j < t.size
    · have h1 := World.cell?_setCells_in g (t.data.toList.map fun x => Value.int .u8 (x.toNat : Int)) 0 w (fun q hq => by rw [Nat.zero_add, hb.cell q (by omega)]; rfl) j (by omega)
      rw [Nat.zero_add] at h1
      rw [h1, List.getElem_append_left (by omega)]
      simp
    · rw [World.cell?_setCells_out g _ 0 w ⟨g, j, none⟩ (fun _ _ => .inr (by rw [hlen]; show 0 + t.size ≤ j; omega))]
      rw [hb.cell j (by simp at hj; omega), List.getElem_append_right (by omega)]
      simp [show t.size + (j - t.size) = j by omega, htl]
  · rw [hfz]; exact hb.free j (by simp at hj; omega)

end
set_option maxRecDepth 100000 in
set_option maxHeartbeats 4000000 in
theorem Get_long (s : ByteArray) (hs : 8 ≤ s.size) (w : World) :
    Calls Tryz.prog 93 #[.string s] w fun e w' => e = .returned (.int .u64 (leN (s.data.toList.take 8))) ∧ Below w.heap.size w w' := by
  go_enter Tryz.func93, Tryz.ntmps93
  have hb0 : ByteBlk (w.alloc (.cells #[.int .u8 0, .int .u8 0, .int .u8 0, .int .u8 0, .int .u8 0, .int .u8 0, .int .u8 0, .int .u8 0] 196)) w.heap.size (List.replicate 8 0) := by
    have h := Blk.new w 196 #[.int .u8 0, .int .u8 0, .int .u8 0, .int .u8 0, .int .u8 0, .int .u8 0, .int .u8 0, .int .u8 0]
    refine ⟨fun j hj => ?_, fun j _ => h.frozen j⟩
    rw [h.cell]
    have hj : j < 8 := by simpa using hj
    match j, hj with
    | 0, _ => rfl
    | 1, _ => rfl
    | 2, _ => rfl
    | 3, _ => rfl
    | 4, _ => rfl
    | 5, _ => rfl
    | 6, _ => rfl
    | 7, _ => rfl
  obtain ⟨t, ht⟩ : ∃ t, s.extract 0 8 = t := ⟨_, rfl⟩
  have hts : t.size = 8 := by rw [← ht, ByteArray.size_extract]; omega
  have htl : t.data.toList = s.data.toList.take 8 := by rw [← ht, ByteArray.data_extract]; simp
  have hs8 : t.size ≤ (List.replicate 8 (0 : UInt8)).length := by simpa using Nat.le_of_eq hts
  go_wp2_with (refine wpList_copyCut (o := ⟨some 8, _, _, _, _, _⟩) _ rfl rfl Tryz.underlying50 sizeOf_u8 hb0 rfl rfl ht hs hs8 ?_; intro w1 hb hg hz; clear hb0)
  have hB : Below w.heap.size w w1 := ((Below.refl w.heap.size w).alloc (Nat.le_refl _) _).grown hg (by simp) (fun q e => by cases e; exact Nat.le_refl _)
  have hl8 : (t.data.toList ++ List.drop t.size (List.replicate 8 0)).length = 8 := by
    have : t.data.toList.length = t.size := by rw [Array.length_toList]; rfl
    rw [List.length_append, List.length_drop, List.length_replicate, this]; omega
  have hN : leN (t.data.toList ++ List.drop t.size (List.replicate 8 0)) = leN (s.data.toList.take 8) := by
    rw [← htl, leN_append, List.drop_replicate, leN_zeros, Nat.mul_zero, Nat.add_zero]
  have HN := Lib.hid hN
  clear hN hs8 hg hz hs hts htl ht
  generalize t.data.toList ++ List.drop t.size (List.replicate 8 0) = l at *
  go_loop [4, 9] (fun n i => ∃ j : Nat, j ≤ 8 ∧ i = .int .i64 j ∧ n = .int .u64 (leN (l.take j))) (fun _ i => 8 - (RowKit.intOf i).toNat)
  case atStart => exact ⟨0, by omega, rfl, rfl⟩
  case round =>
    obtain ⟨j, hj, rfl, rfl⟩ := hrel
    by_cases hlt : j < 8
    · have c1 := hb.cell j (by omega)
      have hx := (l[j]'(by omega)).toNat_lt
      have hstep := leN_take_succ l j (by omega)
      have hlow := leN_lt (l.take j)
      rw [List.length_take, hl8, Nat.min_eq_left (by omega)] at hlow
      generalize leN (l.take j) = a at *
      generalize (l[j]'(by omega)).toNat = x at *
      have hor := Lib.hid (or_byte a x j hlow hx hlt)
      go_wp2_with fail
      go_round
      case rel => exact ⟨j + 1, by omega, by go_num, by rw [hor.out, hstep]⟩
      case measure => simp [RowKit.intOf]; omega
    · obtain rfl : j = 8 := by omega
      have ht : l.take 8 = l := List.take_of_length_le (by omega)
      have HT := Lib.hid ht
      clear ht
      go_wp2_with fail
      go_ret
      exact ⟨by first | rfl | (rw [← HN.out, ← HT.out]; rfl) | (show Ending.returned (.int .u64 (leN _)) = _; rw [HT.out, HN.out]), hB⟩
end Go.Proofs.YthlbciinpidedaaGreat
/- ckpt.Decode: what ends it, and what catches that. -/
namespace Go.Proofs.YthlbciinpidedaaGreat
set_option linter.unusedSimpArgs false
set_option linter.unusedVariables false
set_option maxRecDepth 100000
open Go.RowKit Go.Lib

theorem must_yes (w : World) : Calls Tryz.prog 96 #[.bool true] w fun e w' => e = .returned (.tuple #[]) ∧ w = w' := by
  go_enter Tryz.func96, Tryz.ntmps96
  go_wp2
  go_end0
  exact ⟨rfl, rfl⟩
abbrev wrongV : Value := .iface 167 (.agg #[])
theorem must_no (w : World) : Calls Tryz.prog 96 #[.bool false] w fun e w' => e = .panicked [{ v := wrongV, recovered := false }] ∧ w = w' := by
  go_enter Tryz.func96, Tryz.ntmps96
  go_wp2
  exact ⟨rfl, rfl, rfl⟩
theorem assert_wrong (w : World) : (Instr.typeAssert wrongV 20 167 true).run Tryz.prog w = .ok (.tuple #[.agg #[], .bool true]) w := by kernel_rfl
theorem assert_nil (w : World) : (Instr.typeAssert .nilIface 20 167 true).run Tryz.prog w = .ok (.tuple #[.agg #[], .bool false]) w := by kernel_rfl
abbrev zeroChk : Array Value := #[.int .u64 0, .int .u32 0, .int .u64 0, .int .u64 0, .slice none 0 0, .slice none 0 0]
/-- The world with a checkpoint that is none, and ErrForm. -/
def zeroed (w : World) (c e : Nat) : World := ((((((w.setCell ⟨c, 0, none⟩ (.int .u64 0)).setCell ⟨c, 1, none⟩ (.int .u32 0)).setCell ⟨c, 2, none⟩ (.int .u64 0)).setCell ⟨c, 3, none⟩ (.int .u64 0)).setCell ⟨c, 4, none⟩ (.slice none 0 0)).setCell ⟨c, 5, none⟩ (.slice none 0 0)).setCell ⟨e, 0, none⟩ (.int .i64 5)
theorem catch_bad (c e : Nat) (cs : Array Value) (hcs : cs.size = 6) (v : Value) (older : List PanicEntry) (w : World) (hc : Blk w c 102 cs) (he : Blk w e 30 #[v]) (hne : c ≠ e) :
    CallsD Tryz.prog 95 #[.pointer (some ⟨c, 0, none⟩), .pointer (some ⟨e, 0, none⟩)] (.panicking ({ v := wrongV, recovered := false } :: older)) w fun en u' w' =>
      en = .returned (.tuple #[]) ∧ u' = .panicking ({ v := wrongV, recovered := true } :: older) ∧ zeroed (w.alloc (.cells #[] 167)) c e = w' := by
  refine callsD_of_wpS Tryz.func95 rfl fun c₀ css hu => ?_
  simp only [Tryz.ntmps95, List.size_toArray, List.length_cons, List.length_nil, Nat.reduceAdd, Nat.reduceSub, Array.replicate_succ, Array.replicate_zero, List.push_toArray, List.append_toArray, List.nil_append, List.cons_append]
  obtain ⟨x0, x1, x2, x3, x4, x5, rfl⟩ : ∃ x0 x1 x2 x3 x4 x5, cs = #[x0, x1, x2, x3, x4, x5] := by
    obtain ⟨l⟩ := cs
    match l, hcs with
    | [x0, x1, x2, x3, x4, x5], _ => exact ⟨x0, x1, x2, x3, x4, x5, rfl⟩
  have hc1 := hc.alloc (.cells #[] 167)
  have he1 := he.alloc (.cells #[] 167)
  have c0 := hc1.cell 0
  have c1 := hc1.cell 1
  have c2 := hc1.cell 2
  have c3 := hc1.cell 3
  have c4 := hc1.cell 4
  have c5 := hc1.cell 5
  have e0 := he1.cell 0
  have f0 := fun k => hc1.frozen k
  have f1 := fun k => he1.frozen k
  apply wpS_seq
  refine wpS_region_rec rfl rfl (v := wrongV) (cs' := { c₀ with mode := .panicking ({ v := wrongV, recovered := true } :: older) } :: css) (by simp [recoverD, hu]) ?_ ?_
  · rintro ⟨a, w, h⟩
    obtain ⟨_, h, _⟩ := h
    cases h
  have ha := fun v => assert_wrong v
  go_wp2
  change Code.wpS _ _ _ _ _ _
  refine wpS_of_wp ?_
  go_wp2
  exact ⟨rfl, _, rfl, _, results_none rfl _ _ _, rfl, rfl, rfl⟩
theorem catch_ok (c e : Nat) (w : World) :
    CallsD Tryz.prog 95 #[.pointer (some ⟨c, 0, none⟩), .pointer (some ⟨e, 0, none⟩)] .returning w fun en u' w' =>
      en = .returned (.tuple #[]) ∧ u' = .returning ∧ w.alloc (.cells #[] 167) = w' := by
  refine callsD_of_wpS Tryz.func95 rfl fun c₀ css hu => ?_
  simp only [Tryz.ntmps95, List.size_toArray, List.length_cons, List.length_nil, Nat.reduceAdd, Nat.reduceSub, Array.replicate_succ, Array.replicate_zero, List.push_toArray, List.append_toArray, List.nil_append, List.cons_append]
  apply wpS_seq
  refine wpS_region_rec rfl rfl (v := .nilIface) (cs' := c₀ :: css) (by simp [recoverD, hu]) ?_ ?_
  · rintro ⟨a, w, h⟩
    obtain ⟨_, h, _⟩ := h
    cases h
  have ha := fun v => assert_nil v
  go_wp2
  change Code.wpS _ _ _ _ _ _
  refine wpS_of_wp ?_
  go_wp2
  exact ⟨rfl, .returning, by rw [← hu], _, results_none rfl _ _ _, rfl, rfl, rfl⟩
end Go.Proofs.YthlbciinpidedaaGreat

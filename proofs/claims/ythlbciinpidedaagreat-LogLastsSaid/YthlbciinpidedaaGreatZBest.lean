/- The contract of ckpt.Best. -/
import Derived.Test.YthlbciinpidedaaGreatZK20
import Derived.Test.YthlbciinpidedaaGreatZK8
namespace Go.Proofs.YthlbciinpidedaaGreat
set_option linter.unusedSimpArgs false
set_option linter.unusedVariables false
set_option maxRecDepth 100000
open Go.RowKit
attribute [local go_sem high] run_mx run_mn
section
variable {P : Program}
theorem results_row_two {fn : Func} {p q r : Tmp} {ty : TypeId} (h : fn.results = #[.cell p ty, .tmp q, .tmp r]) (tmps : Array Value) (w : World) (g : Nat) (t : TypeId) (cs : Array Value) (d : TypeDesc)
    (hp : tmps.getD p undef = .pointer (some ⟨g, 0, none⟩)) (hg : Blk w g t cs)
    (hu : P.underlying ty = some d) (hd : (match d with | .struct _ | .array _ _ => true | _ => false) = true) (hi : (P.info? ty).map (·.size) = some cs.size) :
    (results fn tmps).run P w = .ok (.tuple #[.agg cs, tmps.getD q undef, tmps.getD r undef]) w := by
  have hp' : tmps[p]?.getD undef = .pointer (some ⟨g, 0, none⟩) := by simpa using hp
  simp [results, h, hp', asAddr, run_loadVar_row w g t ty cs (0, 0) d hg hu hd hi, Result.andThen]
end
/-- The later one of two. -/
def bestC : Option Chk → Option Chk → Option (Chk × Int)
  | none, none => none
  | none, some y => some (y, 1)
  | some x, none => some (x, 0)
  | some x, some y => if x.gen < y.gen then some (y, 1) else some (x, 0)
def BestOut (w : World) (o : Option (Chk × Int)) (e : Ending) (w' : World) : Prop := match o with
  | some (C, i) => ∃ AO cO AL cL, e = .returned (.tuple #[.agg (chkCells C AO cO AL cL), .int .i64 i, .int .i64 0]) ∧ Sep w w' [Thing.row 3 1 (.slice AO C.order.length cO) C.order.length (ints C.order), Thing.row 3 1 (.slice AL C.lens.length cL) C.lens.length (ints C.lens)]
  | none => e = .returned (.tuple #[.agg zeroChk, .int .i64 0, .int .i64 5]) ∧ Newer w w'
theorem dec_some {s : ByteArray} {C : Chk} (h : decC s.data.toList = some C) (v : World) : Calls Tryz.prog 52 #[.string s] v fun e w' => ∃ AO cO AL cL, e = .returned (.tuple #[.agg (chkCells C AO cO AL cL), .int .i64 0]) ∧ Sep v w' [Thing.row 3 1 (.slice AO C.order.length cO) C.order.length (ints C.order), Thing.row 3 1 (.slice AL C.lens.length cL) C.lens.length (ints C.lens)] := by
  have h1 := Decode_chk s v
  unfold DecOut at h1
  rw [h] at h1
  exact h1
theorem dec_none {s : ByteArray} (h : decC s.data.toList = none) (v : World) : Calls Tryz.prog 52 #[.string s] v fun e w' => e = .returned (.tuple #[.agg #[.int .u64 0, .int .u32 0, .int .u64 0, .int .u64 0, .slice none 0 0, .slice none 0 0], .int .i64 5]) ∧ Newer v w' := by
  have h1 := Decode_chk s v
  unfold DecOut at h1
  rw [h] at h1
  exact h1
/-- The result's cells, set. -/
theorem set6 {S0 : Nat → Prop} {w0 w : World} {g : Nat} {t : TypeId} {x0 x1 x2 x3 x4 x5 : Value} {post : List Thing} (y0 y1 y2 y3 y4 y5 : Value) (pre : List Thing) (h : Now S0 w0 w (pre ++ Thing.cells g t #[x0, x1, x2, x3, x4, x5] :: post)) :
    Now S0 w0 ((((((w.setCell ⟨g, 0, none⟩ y0).setCell ⟨g, 1, none⟩ y1).setCell ⟨g, 2, none⟩ y2).setCell ⟨g, 3, none⟩ y3).setCell ⟨g, 4, none⟩ y4).setCell ⟨g, 5, none⟩ y5) (pre ++ Thing.cells g t #[y0, y1, y2, y3, y4, y5] :: post) :=
  Now.set_ (Now.set_ (Now.set_ (Now.set_ (Now.set_ (Now.set_ h 0 y0) 1 y1) 2 y2) 3 y3) 4 y4) 5 y5
set_option maxHeartbeats 8000000 in
theorem Best_any (a b : ByteArray) (w : World) : Calls Tryz.prog 46 #[.string a, .string b] w fun e w' => BestOut w (bestC (decC a.data.toList) (decC b.data.toList)) e w' := by
  have hS1 := Now.pushCells (Sep.start w) 102 #[.int .u64 0, .int .u32 0, .int .u64 0, .int .u64 0, .slice none 0 0, .slice none 0 0]
  cases ha : decC a.data.toList with
  | none =>
    have d1 := dec_none ha
    clear ha
    cases hb : decC b.data.toList with
    | none =>
      have d2 := dec_none hb
      clear hb
      go_enter Tryz.func46, Tryz.ntmps46
      go_wp2_with (first
        | (have _g := d1; go_at_call 52; (with_reducible refine (d1 _).mono ?_); rintro e w1 ⟨rfl, hB⟩; replace hS1 := Now.pushCells (Now.below hS1 hB) 102 #[.int .u64 0, .int .u32 0, .int .u64 0, .int .u64 0, .slice none 0 0, .slice none 0 0]; clear hB d1 _g)
        | (have _g := d2; go_at_call 52; (with_reducible refine (d2 _).mono ?_); rintro e w2 ⟨rfl, hB⟩; replace hS1 := Now.pushCells (Now.below hS1 hB) 102 #[.int .u64 0, .int .u32 0, .int .u64 0, .int .u64 0, .slice none 0 0, .slice none 0 0]; clear hB d2 _g; have hcb := Now.blk (pre := [_, _]) hS1; have fc := fun k => hcb.frozen k; have e0 : _ = some (Value.int .u64 0) := hcb.cell 0; have e1 : _ = some (Value.int .u32 0) := hcb.cell 1; have e2 : _ = some (Value.int .u64 0) := hcb.cell 2; have e3 : _ = some (Value.int .u64 0) := hcb.cell 3; have e4 : _ = some (Value.slice none 0 0) := hcb.cell 4; have e5 : _ = some (Value.slice none 0 0) := hcb.cell 5; clear hcb))
      have hS2 := set6 (.int .u64 0) (.int .u32 0) (.int .u64 0) (.int .u64 0) (.slice none 0 0) (.slice none 0 0) [_, _] hS1
      refine bodyPost_ret (v := .tuple #[.agg #[.int .u64 0, .int .u32 0, .int .u64 0, .int .u64 0, .slice none 0 0, .slice none 0 0], .int .i64 0, .int .i64 5]) (by rw [results_row_two rfl _ _ _ _ _ _ (by simp) (Now.blk (pre := [_, _]) hS2) Tryz.underlying102 rfl (by kernel_rfl)]; simp) rfl ?_
      exact ⟨rfl, Sep.base hS2⟩
    | some y =>
      have d2 := dec_some hb
      clear hb
      go_enter Tryz.func46, Tryz.ntmps46
      go_wp2_with (first
        | (have _g := d1; go_at_call 52; (with_reducible refine (d1 _).mono ?_); rintro e w1 ⟨rfl, hB⟩; replace hS1 := Now.pushCells (Now.below hS1 hB) 102 #[.int .u64 0, .int .u32 0, .int .u64 0, .int .u64 0, .slice none 0 0, .slice none 0 0]; clear hB d1 _g)
        | (have _g := d2; go_at_call 52; (with_reducible refine (d2 _).mono ?_); rintro e w2 ⟨BO, kBO, BL, kBL, rfl, hB⟩; replace hS1 := Now.pushCells (Now.pushAll hS1 hB) 102 #[.int .u64 y.gen, .int .u32 y.epoch, .int .u64 y.lsn, .int .u64 y.ver, .slice BO y.order.length kBO, .slice BL y.lens.length kBL]; clear hB d2 _g; have hcb := Now.blk (pre := [_, _, _, _]) hS1; have fc := fun k => hcb.frozen k; have e0 : _ = some (Value.int .u64 0) := hcb.cell 0; have e1 : _ = some (Value.int .u32 0) := hcb.cell 1; have e2 : _ = some (Value.int .u64 0) := hcb.cell 2; have e3 : _ = some (Value.int .u64 0) := hcb.cell 3; have e4 : _ = some (Value.slice none 0 0) := hcb.cell 4; have e5 : _ = some (Value.slice none 0 0) := hcb.cell 5; clear hcb; have hcb := Now.blk (pre := []) hS1; have y0 : _ = some (Value.int .u64 y.gen) := hcb.cell 0; have y1 : _ = some (Value.int .u32 y.epoch) := hcb.cell 1; have y2 : _ = some (Value.int .u64 y.lsn) := hcb.cell 2; have y3 : _ = some (Value.int .u64 y.ver) := hcb.cell 3; have y4 : _ = some (Value.slice BO y.order.length kBO) := hcb.cell 4; have y5 : _ = some (Value.slice BL y.lens.length kBL) := hcb.cell 5; clear hcb))
      have hS2 := set6 (.int .u64 y.gen) (.int .u32 y.epoch) (.int .u64 y.lsn) (.int .u64 y.ver) (.slice BO y.order.length kBO) (.slice BL y.lens.length kBL) [_, _, _, _] hS1
      refine bodyPost_ret (v := .tuple #[.agg #[.int .u64 y.gen, .int .u32 y.epoch, .int .u64 y.lsn, .int .u64 y.ver, .slice BO y.order.length kBO, .slice BL y.lens.length kBL], .int .i64 1, .int .i64 0]) (by rw [results_row_two rfl _ _ _ _ _ _ (by simp) (Now.blk (pre := [_, _, _, _]) hS2) Tryz.underlying102 rfl (by kernel_rfl)]; simp) rfl ?_
      exact ⟨_, _, _, _, rfl, Now.drop (pre := [_, _]) (Now.drop (pre := [_, _]) (Now.drop (pre := []) (hS2)))⟩
  | some x =>
    have d1 := dec_some ha
    clear ha
    cases hb : decC b.data.toList with
    | none =>
      have d2 := dec_none hb
      clear hb
      go_enter Tryz.func46, Tryz.ntmps46
      go_wp2_with (first
        | (have _g := d1; go_at_call 52; (with_reducible refine (d1 _).mono ?_); rintro e w1 ⟨AO, kAO, AL, kAL, rfl, hB⟩; replace hS1 := Now.pushCells (Now.pushAll hS1 hB) 102 #[.int .u64 x.gen, .int .u32 x.epoch, .int .u64 x.lsn, .int .u64 x.ver, .slice AO x.order.length kAO, .slice AL x.lens.length kAL]; clear hB d1 _g)
        | (have _g := d2; go_at_call 52; (with_reducible refine (d2 _).mono ?_); rintro e w2 ⟨rfl, hB⟩; replace hS1 := Now.pushCells (Now.below hS1 hB) 102 #[.int .u64 0, .int .u32 0, .int .u64 0, .int .u64 0, .slice none 0 0, .slice none 0 0]; clear hB d2 _g; have hcb := Now.blk (pre := [_, _, _, _]) hS1; have fc := fun k => hcb.frozen k; have e0 : _ = some (Value.int .u64 0) := hcb.cell 0; have e1 : _ = some (Value.int .u32 0) := hcb.cell 1; have e2 : _ = some (Value.int .u64 0) := hcb.cell 2; have e3 : _ = some (Value.int .u64 0) := hcb.cell 3; have e4 : _ = some (Value.slice none 0 0) := hcb.cell 4; have e5 : _ = some (Value.slice none 0 0) := hcb.cell 5; clear hcb; have hcb := Now.blk (pre := [_]) hS1; have x0 : _ = some (Value.int .u64 x.gen) := hcb.cell 0; have x1 : _ = some (Value.int .u32 x.epoch) := hcb.cell 1; have x2 : _ = some (Value.int .u64 x.lsn) := hcb.cell 2; have x3 : _ = some (Value.int .u64 x.ver) := hcb.cell 3; have x4 : _ = some (Value.slice AO x.order.length kAO) := hcb.cell 4; have x5 : _ = some (Value.slice AL x.lens.length kAL) := hcb.cell 5; clear hcb))
      have hS2 := set6 (.int .u64 x.gen) (.int .u32 x.epoch) (.int .u64 x.lsn) (.int .u64 x.ver) (.slice AO x.order.length kAO) (.slice AL x.lens.length kAL) [_, _, _, _] hS1
      refine bodyPost_ret (v := .tuple #[.agg #[.int .u64 x.gen, .int .u32 x.epoch, .int .u64 x.lsn, .int .u64 x.ver, .slice AO x.order.length kAO, .slice AL x.lens.length kAL], .int .i64 0, .int .i64 0]) (by rw [results_row_two rfl _ _ _ _ _ _ (by simp) (Now.blk (pre := [_, _, _, _]) hS2) Tryz.underlying102 rfl (by kernel_rfl)]; simp) rfl ?_
      exact ⟨_, _, _, _, rfl, Now.drop (pre := [_, _]) (Now.drop (pre := []) (Now.drop (pre := []) (hS2)))⟩
    | some y =>
      by_cases hlt : x.gen < y.gen
      · have hbe : bestC (some x) (some y) = some (y, 1) := if_pos hlt
        rw [hbe]
        clear hbe
        have d2 := dec_some hb
        clear hb
        go_enter Tryz.func46, Tryz.ntmps46
        go_wp2_with (first
          | (have _g := d1; go_at_call 52; (with_reducible refine (d1 _).mono ?_); rintro e w1 ⟨AO, kAO, AL, kAL, rfl, hB⟩; replace hS1 := Now.pushCells (Now.pushAll hS1 hB) 102 #[.int .u64 x.gen, .int .u32 x.epoch, .int .u64 x.lsn, .int .u64 x.ver, .slice AO x.order.length kAO, .slice AL x.lens.length kAL]; clear hB d1 _g)
          | (have _g := d2; go_at_call 52; (with_reducible refine (d2 _).mono ?_); rintro e w2 ⟨BO, kBO, BL, kBL, rfl, hB⟩; replace hS1 := Now.pushCells (Now.pushAll hS1 hB) 102 #[.int .u64 y.gen, .int .u32 y.epoch, .int .u64 y.lsn, .int .u64 y.ver, .slice BO y.order.length kBO, .slice BL y.lens.length kBL]; clear hB d2 _g; have hcb := Now.blk (pre := [_, _, _, _, _, _]) hS1; have fc := fun k => hcb.frozen k; have e0 : _ = some (Value.int .u64 0) := hcb.cell 0; have e1 : _ = some (Value.int .u32 0) := hcb.cell 1; have e2 : _ = some (Value.int .u64 0) := hcb.cell 2; have e3 : _ = some (Value.int .u64 0) := hcb.cell 3; have e4 : _ = some (Value.slice none 0 0) := hcb.cell 4; have e5 : _ = some (Value.slice none 0 0) := hcb.cell 5; clear hcb; have hcb := Now.blk (pre := []) hS1; have y0 : _ = some (Value.int .u64 y.gen) := hcb.cell 0; have y1 : _ = some (Value.int .u32 y.epoch) := hcb.cell 1; have y2 : _ = some (Value.int .u64 y.lsn) := hcb.cell 2; have y3 : _ = some (Value.int .u64 y.ver) := hcb.cell 3; have y4 : _ = some (Value.slice BO y.order.length kBO) := hcb.cell 4; have y5 : _ = some (Value.slice BL y.lens.length kBL) := hcb.cell 5; clear hcb; have hcb := Now.blk (pre := [_, _, _]) hS1; have x0 : _ = some (Value.int .u64 x.gen) := hcb.cell 0; have x1 : _ = some (Value.int .u32 x.epoch) := hcb.cell 1; have x2 : _ = some (Value.int .u64 x.lsn) := hcb.cell 2; have x3 : _ = some (Value.int .u64 x.ver) := hcb.cell 3; have x4 : _ = some (Value.slice AO x.order.length kAO) := hcb.cell 4; have x5 : _ = some (Value.slice AL x.lens.length kAL) := hcb.cell 5; clear hcb))
        have hS2 := set6 (.int .u64 y.gen) (.int .u32 y.epoch) (.int .u64 y.lsn) (.int .u64 y.ver) (.slice BO y.order.length kBO) (.slice BL y.lens.length kBL) [_, _, _, _, _, _] hS1
        refine bodyPost_ret (v := .tuple #[.agg #[.int .u64 y.gen, .int .u32 y.epoch, .int .u64 y.lsn, .int .u64 y.ver, .slice BO y.order.length kBO, .slice BL y.lens.length kBL], .int .i64 1, .int .i64 0]) (by rw [results_row_two rfl _ _ _ _ _ _ (by simp) (Now.blk (pre := [_, _, _, _, _, _]) hS2) Tryz.underlying102 rfl (by kernel_rfl)]; simp) rfl ?_
        exact ⟨_, _, _, _, rfl, Now.drop (pre := [_, _]) (Now.drop (pre := [_, _]) (Now.drop (pre := [_, _]) (Now.drop (pre := [_, _]) (Now.drop (pre := []) (hS2)))))⟩
      · have hbe : bestC (some x) (some y) = some (x, 0) := if_neg hlt
        rw [hbe]
        clear hbe
        have d2 := dec_some hb
        clear hb
        go_enter Tryz.func46, Tryz.ntmps46
        go_wp2_with (first
          | (have _g := d1; go_at_call 52; (with_reducible refine (d1 _).mono ?_); rintro e w1 ⟨AO, kAO, AL, kAL, rfl, hB⟩; replace hS1 := Now.pushCells (Now.pushAll hS1 hB) 102 #[.int .u64 x.gen, .int .u32 x.epoch, .int .u64 x.lsn, .int .u64 x.ver, .slice AO x.order.length kAO, .slice AL x.lens.length kAL]; clear hB d1 _g)
          | (have _g := d2; go_at_call 52; (with_reducible refine (d2 _).mono ?_); rintro e w2 ⟨BO, kBO, BL, kBL, rfl, hB⟩; replace hS1 := Now.pushCells (Now.pushAll hS1 hB) 102 #[.int .u64 y.gen, .int .u32 y.epoch, .int .u64 y.lsn, .int .u64 y.ver, .slice BO y.order.length kBO, .slice BL y.lens.length kBL]; clear hB d2 _g; have hcb := Now.blk (pre := [_, _, _, _, _, _]) hS1; have fc := fun k => hcb.frozen k; have e0 : _ = some (Value.int .u64 0) := hcb.cell 0; have e1 : _ = some (Value.int .u32 0) := hcb.cell 1; have e2 : _ = some (Value.int .u64 0) := hcb.cell 2; have e3 : _ = some (Value.int .u64 0) := hcb.cell 3; have e4 : _ = some (Value.slice none 0 0) := hcb.cell 4; have e5 : _ = some (Value.slice none 0 0) := hcb.cell 5; clear hcb; have hcb := Now.blk (pre := []) hS1; have y0 : _ = some (Value.int .u64 y.gen) := hcb.cell 0; have y1 : _ = some (Value.int .u32 y.epoch) := hcb.cell 1; have y2 : _ = some (Value.int .u64 y.lsn) := hcb.cell 2; have y3 : _ = some (Value.int .u64 y.ver) := hcb.cell 3; have y4 : _ = some (Value.slice BO y.order.length kBO) := hcb.cell 4; have y5 : _ = some (Value.slice BL y.lens.length kBL) := hcb.cell 5; clear hcb; have hcb := Now.blk (pre := [_, _, _]) hS1; have x0 : _ = some (Value.int .u64 x.gen) := hcb.cell 0; have x1 : _ = some (Value.int .u32 x.epoch) := hcb.cell 1; have x2 : _ = some (Value.int .u64 x.lsn) := hcb.cell 2; have x3 : _ = some (Value.int .u64 x.ver) := hcb.cell 3; have x4 : _ = some (Value.slice AO x.order.length kAO) := hcb.cell 4; have x5 : _ = some (Value.slice AL x.lens.length kAL) := hcb.cell 5; clear hcb))
        have hS2 := set6 (.int .u64 x.gen) (.int .u32 x.epoch) (.int .u64 x.lsn) (.int .u64 x.ver) (.slice AO x.order.length kAO) (.slice AL x.lens.length kAL) [_, _, _, _, _, _] hS1
        refine bodyPost_ret (v := .tuple #[.agg #[.int .u64 x.gen, .int .u32 x.epoch, .int .u64 x.lsn, .int .u64 x.ver, .slice AO x.order.length kAO, .slice AL x.lens.length kAL], .int .i64 0, .int .i64 0]) (by rw [results_row_two rfl _ _ _ _ _ _ (by simp) (Now.blk (pre := [_, _, _, _, _, _]) hS2) Tryz.underlying102 rfl (by kernel_rfl)]; simp) rfl ?_
        exact ⟨_, _, _, _, rfl, Now.drop (pre := [_, _]) (Now.drop (pre := []) (Now.drop (pre := []) (Now.drop (pre := []) (Now.drop (pre := []) (hS2)))))⟩
end Go.Proofs.YthlbciinpidedaaGreat

/- Records among a law's arguments: how a list of them is opened; Cut, Ref and Right of a record; a struct behind a row. -/
import Derived.Test.YthlbciinpidedaaGreatZK22
import Derived.Test.YthlbciinpidedaaGreatZShapes
import Derived.Test.YthlbciinpidedaaGreatZReadsPure
import Derived.Test.YthlbciinpidedaaGreatZK12
namespace Go.Proofs.YthlbciinpidedaaGreat
set_option linter.unusedSimpArgs false
set_option linter.unusedVariables false
set_option maxRecDepth 100000
open Go.RowKit
attribute [local go_sem high] run_mx run_mn
/-- 'v = append(v, u)' of one value of some cells. -/
theorem cells_new (w : World) (us : Array Value) (t : TypeId) : ∀ j u, us.toList[j]? = some u → (w.alloc (.cells us t)).cell? ((⟨w.heap.size, 0, none⟩ : Addr).add j) = some u := by
  intro j u hj
  have h := (Blk.new w t us).cell j
  rw [show (⟨w.heap.size, 0, none⟩ : Addr).add j = ⟨w.heap.size, j, none⟩ from by simp [Addr.add]; intro h; exact h.symm, h]
  simpa using hj
theorem wpList_appS {P : Program} (w : World) {ops : Array Oper} {rest : List Oper} {o : Oper} {a : Act} {Q : Exit → Act → World → Prop} (hgd : o.guard = none) (s x : Operand) (t : TypeId)
    (ho : o.op = .call { callee := .builtin .append, args := #[s, x], argTypes := #[t, t] })
    (e : TypeId) {i : TypeInfo} {z : Value} {size bytes : Nat} (ht : P.underlying t = some (.slice e)) (hi : P.info? e = some i) (hz : i.zero = some z)
    (hsize : i.size = size) (hby : i.bytes = bytes) (hzs : z.cells.size = size) (hsz : 0 < size)
    {v : Value} {n : Nat} {xs : List Value} {us : Array Value} (hown : w.ownsRow 0 e size v n xs) (hs : a.eval s = v) (hx : a.eval x = .slice (some ⟨w.heap.size, 0, none⟩) 1 1) (hl : us.toList.length = size) (h1 : ∀ u ∈ us.toList, u.oneCell' = true)
    (h63 : n + 1 ≤ maxLen) (hbytes : (n + 1) * bytes ≤ 140737488355328)
    (h : ∀ v' w', w'.ownsRow 0 e size v' (n + 1) (xs ++ us.toList) → w.grownBy w' v.ownBlock → (v'.ownBlock = v.ownBlock ∨ v'.ownBlock = some (w.heap.size + 1)) → wpList P ops Q rest (a.put o.dst v') w') : wpList P ops Q (o :: rest) a (w.alloc (.cells us e)) :=
  wpList_append_any _ hgd s x t ho 0 e i z size bytes ht hi hz hsize hby hzs hsz v n xs hs (hown.alloc _) (w.heap.size + 1) (some ⟨w.heap.size, 0, none⟩) 1 1 us.toList hx
    ⟨by rw [hl, Nat.one_mul], fun _ => ⟨_, rfl, by simp, cells_new _ _ _⟩⟩ h1 h63 hbytes (Nat.zero_le _)
    fun v' w' h2 h3 h4 => h v' w' h2 ((World.grownBy_alloc w _ _).trans h3) (by simpa using h4)
section
open Go.ChangeShapes Go.WideShapes Go.ChangeAt Go.Deep
variable {H : Type} {enc : TypeId × Value → H} {W : World} {b0 : Nat}
abbrev recForm : List (List Value → Prop) := [rdInt .u64, rdInt .u32, rdInt .i64, rdInt .u64, rdInt .u64, rdStr, rdStr]
theorem lt_u64 {n : Int} (h : (Lit.int .u64 n).wf = true) : 0 ≤ n ∧ n < 18446744073709551616 := by
  have := bounds_u64 h
  omega
theorem lt_u32 {n : Int} (h : (Lit.int .u32 n).wf = true) : 0 ≤ n ∧ n < 4294967296 := by
  have := bounds_u32 h
  omega
set_option maxRecDepth 100000 in
theorem rec_form {cs : List Value} (h : Parts recForm cs) : ∃ r : Rec, r.value = .agg cs.toArray ∧ r.Fits := by
  obtain ⟨_, _, rfl, ⟨a, rfl, ha⟩, g1⟩ := h.cons
  obtain ⟨_, _, rfl, ⟨b, rfl, hb⟩, g2⟩ := g1.cons
  obtain ⟨_, _, rfl, ⟨c, rfl, hc⟩, g3⟩ := g2.cons
  obtain ⟨_, _, rfl, ⟨e, rfl, he⟩, g4⟩ := g3.cons
  obtain ⟨_, _, rfl, ⟨f, rfl, hf⟩, g5⟩ := g4.cons
  obtain ⟨_, _, rfl, ⟨s, rfl, hs⟩, g6⟩ := g5.cons
  obtain ⟨_, _, rfl, ⟨t, rfl, ht⟩, g7⟩ := g6.cons
  have g7 : _ = [] := g7
  subst g7
  exact ⟨⟨a, b, c, e, f, s, t⟩, rfl, lt_u64 ha, lt_u32 hb, bounds_i64 hc, lt_u64 he, lt_u64 hf, hs, ht⟩
set_option maxRecDepth 100000 in
theorem tr_rec : Rd enc Tryz.prog W 42 (Parts recForm) :=
  tr_struct Tryz.underlying42 (by kernel_rfl) ⟨rfl, tr_int Tryz.underlying39, by kernel_rfl, tr_int Tryz.underlying40, by kernel_rfl, tr_int Tryz.underlying3, by kernel_rfl, tr_int Tryz.underlying39, by kernel_rfl, tr_int Tryz.underlying39, by kernel_rfl, tr_str Tryz.underlying9, by kernel_rfl, tr_str Tryz.underlying9, trivial⟩
set_option maxRecDepth 100000 in
theorem opened_sl_Record {v : Value} {d : DataW H} {ps : List MemPlace} (hv : Value.okWide Tryz.prog W .any b0 80 v) (h : DataW.Trod enc Tryz.prog W 0 (fun _ => true) true 80 v d ps) : ∃ A n c xss, v = .slice A n c ∧ Elems W 7 (Parts recForm) A n c xss :=
  opened_sl Tryz.underlying80 (tr_slice (by omega) Tryz.underlying80 (by kernel_rfl) tr_rec) hv h
end
theorem rec7 {W w : World} {L : List Thing} {ad : Addr} {k : Nat} {cs : List Value} {r : Rec} (hN : Sep W w L) (hb : ad.block < W.heap.size) (hc : ∀ q, q < 7 → W.cell? (ad.add (k * 7 + q)) = cs[q]?) (e : r.value = .agg cs.toArray) :
    w.cell? (ad.add (k * 7)) = some (.int .u64 r.lsn) ∧ w.cell? ⟨(ad.add (k * 7)).block, (ad.add (k * 7)).off + 1, none⟩ = some (.int .u32 r.epoch) ∧ w.cell? ⟨(ad.add (k * 7)).block, (ad.add (k * 7)).off + 2, none⟩ = some (.int .i64 r.kind) ∧ w.cell? ⟨(ad.add (k * 7)).block, (ad.add (k * 7)).off + 3, none⟩ = some (.int .u64 r.ver) ∧ w.cell? ⟨(ad.add (k * 7)).block, (ad.add (k * 7)).off + 4, none⟩ = some (.int .u64 r.dl) ∧ w.cell? ⟨(ad.add (k * 7)).block, (ad.add (k * 7)).off + 5, none⟩ = some (.string r.id) ∧ w.cell? ⟨(ad.add (k * 7)).block, (ad.add (k * 7)).off + 6, none⟩ = some (.string r.val) := by
  have e2 : cs = [.int .u64 r.lsn, .int .u32 r.epoch, .int .i64 r.kind, .int .u64 r.ver, .int .u64 r.dl, .string r.id, .string r.val] := by
    have h := congrArg Array.toList (Value.agg.inj e)
    exact h.symm
  subst e2
  have hw : ∀ q, q < 7 → w.cell? ((ad.add (k * 7)).add q) = ([.int .u64 r.lsn, .int .u32 r.epoch, .int .i64 r.kind, .int .u64 r.ver, .int .u64 r.dl, .string r.id, .string r.val] : List Value)[q]? := fun q hq => by
    rw [add_of_add]
    exact ((Sep.base hN).cell (by rw [block_of_add]; exact hb)).trans (hc q hq)
  refine ⟨?_, cell_off (hw 1 (by omega)), cell_off (hw 2 (by omega)), cell_off (hw 3 (by omega)), cell_off (hw 4 (by omega)), cell_off (hw 5 (by omega)), cell_off (hw 6 (by omega))⟩
  have := hw 0 (by omega)
  rwa [show (ad.add (k * 7)).add 0 = ad.add (k * 7) from rfl] at this
/-- With texts of at most 80 bytes. -/
def cut80 (s : ByteArray) : ByteArray := s.extract 0 (min s.size 80)
def Rec.cut (r : Rec) : Rec := ⟨r.lsn, r.epoch, r.kind, r.ver, r.dl, cut80 r.id, cut80 r.val⟩
theorem Rec.cut_fits {r : Rec} (h : r.Fits) : r.cut.Fits :=
  ⟨h.lsn, h.epoch, h.kind, h.ver, h.dl, by show (ByteArray.extract _ _ _).size ≤ _; rw [ByteArray.size_extract]; omega, by show (ByteArray.extract _ _ _).size ≤ _; rw [ByteArray.size_extract]; omega⟩
set_option maxRecDepth 100000 in
set_option maxHeartbeats 4000000 in
theorem Cut_any (r : Rec) (w : World) : Calls Tryz.prog 32 #[r.value] w fun e w' => e = .returned r.cut.value ∧ Below w.heap.size w w' := by
  have m1 : (0 : Int) ≤ mn (r.id.size : Int) 80 := by rw [mn_def]; omega
  have m2 : mn (r.id.size : Int) 80 ≤ (r.id.size : Int) := by rw [mn_def]; omega
  have m3 : (0 : Int) ≤ mn (r.val.size : Int) 80 := by rw [mn_def]; omega
  have m4 : mn (r.val.size : Int) 80 ≤ (r.val.size : Int) := by rw [mn_def]; omega
  have e1 : (mn (r.id.size : Int) 80).toNat = min r.id.size 80 := by rw [mn_def]; omega
  have e2 : (mn (r.val.size : Int) 80).toNat = min r.val.size 80 := by rw [mn_def]; omega
  unfold Rec.cut cut80 Rec.value
  go_enter Tryz.func32, Tryz.ntmps32
  go_wp2_with fail
  have f1 : (min (r.id.size : Int) 80).toNat = min r.id.size 80 := by omega
  have f2 : (min (r.val.size : Int) 80).toNat = min r.val.size 80 := by omega
  rw [f1, f2]
  have h2 := Blk.new (w.alloc (.cells #[.int .u64 r.lsn, .int .u32 r.epoch, .int .i64 r.kind, .int .u64 r.ver, .int .u64 r.dl, .string (r.id.extract 0 (min r.id.size 80)), .string (r.val.extract 0 (min r.val.size 80))] 42)) 42 #[.int .u64 r.lsn, .int .u32 r.epoch, .int .i64 r.kind, .int .u64 r.ver, .int .u64 r.dl, .string (r.id.extract 0 (min r.id.size 80)), .string (r.val.extract 0 (min r.val.size 80))]
  refine bodyPost_ret (v := .agg #[.int .u64 r.lsn, .int .u32 r.epoch, .int .i64 r.kind, .int .u64 r.ver, .int .u64 r.dl, .string (r.id.extract 0 (min r.id.size 80)), .string (r.val.extract 0 (min r.val.size 80))]) ?_ rfl ⟨rfl, ((Below.refl _ _).alloc (Nat.le_refl _) _).alloc (by simp) _⟩
  exact results_cell_row rfl _ _ _ _ _ (0, 0) _ (by simp) h2 Tryz.underlying42 rfl (by kernel_rfl)
set_option maxRecDepth 100000 in
set_option maxHeartbeats 4000000 in
theorem Ref_any (r : Rec) (w : World) : Calls Tryz.prog 34 #[r.value] w fun e w' => e = .returned r.value ∧ Below w.heap.size w w' := by
  unfold Rec.value
  go_enter Tryz.func34, Tryz.ntmps34
  go_wp2_with fail
  have h2 := Blk.new (w.alloc (.cells #[.int .u64 r.lsn, .int .u32 r.epoch, .int .i64 r.kind, .int .u64 r.ver, .int .u64 r.dl, .string r.id, .string r.val] 42)) 84 #[.int .u64 r.lsn, .int .u32 r.epoch, .int .i64 r.kind, .int .u64 r.ver, .int .u64 r.dl, .string r.id, .string r.val]
  refine bodyPost_ret (v := .agg #[.int .u64 r.lsn, .int .u32 r.epoch, .int .i64 r.kind, .int .u64 r.ver, .int .u64 r.dl, .string r.id, .string r.val]) ?_ rfl ⟨rfl, ((Below.refl _ _).alloc (Nat.le_refl _) _).alloc (by simp) _⟩
  exact results_cell_row rfl _ _ _ _ _ (0, 0) _ (by simp) h2 Tryz.underlying84 rfl (by kernel_rfl)
set_option maxRecDepth 100000 in
set_option maxHeartbeats 4000000 in
theorem RRight_any (r : Rec) (hr : r.Fits) (w : World) : Calls Tryz.prog 35 #[r.value] w fun e w' => e = .returned (.bool r.right) ∧ Below w.heap.size w w' := by
  unfold Rec.value
  have hB : Below w.heap.size w (w.alloc (.cells #[.int .u64 r.lsn, .int .u32 r.epoch, .int .i64 r.kind, .int .u64 r.ver, .int .u64 r.dl, .string r.id, .string r.val] 84)) := (Below.refl _ _).alloc (Nat.le_refl _) _
  have hid := hr.id
  go_enter Tryz.func35, Tryz.ntmps35
  go_wp2_with (first
    | (go_at_call 78; refine (RID_any _ hid _).mono ?_; rintro e w' ⟨rfl, rfl⟩)
    | (go_at_call 79; refine (RValue_any _ _).mono ?_; rintro e w' ⟨rfl, rfl⟩))
  all_goals
    go_ret
    refine ⟨?_, ?_⟩
    · simp_all [Rec.right]
    · simp_all
/-- A row of things of some cells, pushed. -/
theorem Now.pushRowS {S0 : Nat → Prop} {w0 w : World} {L : List Thing} (h : Now S0 w0 w L) (t : TypeId) (size : Nat) (xs : Array Value) (n : Nat) (hm : n ≤ maxLen) (hn : xs.size = n * size) : Now S0 w0 (w.alloc (.cells xs t)) (Thing.row t size (.slice (some ⟨w.heap.size, 0, none⟩) n n) n xs.toList :: L) :=
  h.push ((Below.refl _ _).alloc (Nat.le_refl _) _) (S' := fun k => k = w.heap.size) ⟨World.ownsRow_lit (e := t) (base := 0) (size := size) w xs n (Nat.zero_le _) hm hn, fun k => by simp [Value.ownBlock, eq_comm]⟩ (fun k hk => Nat.le_of_eq hk.symm)
/-- Where the places, and the records, of a list stand. -/
def locC (E : List Ent) : List Value := E.flatMap fun e => [.int .i64 e.seg, .int .i64 e.slot]
def whatC (E : List Ent) : List Value := E.flatMap fun e => [.int .u64 e.rc.lsn, .int .u32 e.rc.epoch, .int .i64 e.rc.kind, .int .u64 e.rc.ver, .int .u64 e.rc.dl, .string e.rc.id, .string e.rc.val]
theorem flat_at {α β : Type} (f : α → List β) (ce : Nat) (hf : ∀ x, (f x).length = ce) : ∀ (E : List α) (i : Nat) (e : α) (j : Nat), E[i]? = some e → j < ce → (E.flatMap f)[i * ce + j]? = (f e)[j]?
  | [], i, e, j, h, _ => by simp at h
  | x :: E, 0, e, j, h, hj => by
    obtain rfl : x = e := by simpa using h
    rw [List.flatMap_cons, Nat.zero_mul, Nat.zero_add, List.getElem?_append_left (by rw [hf]; exact hj)]
  | x :: E, i + 1, e, j, h, hj => by
    have h' : E[i]? = some e := by simpa using h
    have e1 : (i + 1) * ce + j = (f x).length + (i * ce + j) := by rw [hf, Nat.add_mul]; omega
    rw [List.flatMap_cons, e1, List.getElem?_append_right (Nat.le_add_right _ _), Nat.add_sub_cancel_left]
    exact flat_at f ce hf E i e j h' hj
theorem row_here {w : World} {B size : Nat} {A : Option Addr} {n : Nat} {xs : List Value} (h : Reads w B size A n xs) (hn : 0 < n) : ∃ ad, A = some ad ∧ ∀ j u, xs[j]? = some u → w.cell? (ad.add j) = some u := by
  obtain ⟨ad, e, _, h3⟩ := h.2 hn
  exact ⟨ad, e, h3⟩
theorem row_at7 {w : World} {B size : Nat} {A : Option Addr} {n : Nat} {xs : List Value} (h : Reads w B size A n xs) (hn : 0 < n) : ∃ ad, A = some ad ∧ ad.block < B ∧ ∀ j u, xs[j]? = some u → w.cell? (ad.add j) = some u := h.2 hn
theorem sumTo_all (l : List Int) : sumTo l l.length = l.sum := by
  have key : ∀ (l : List Int) (a : Int), l.foldl (· + ·) a = a + l.sum := fun l => by
    induction l with
    | nil => intro a; simp
    | cons x l ih => intro a; rw [List.foldl_cons, ih, List.sum_cons, Int.add_assoc]
  unfold sumTo
  rw [List.take_of_length_le (Nat.le_refl _), key, Int.zero_add]
theorem loc_at {w : World} {ad : Addr} {E : List Ent} {i : Nat} {e : Ent} (h : ∀ j u, (locC E)[j]? = some u → w.cell? (ad.add j) = some u) (hi : E[i]? = some e) :
    w.cell? (ad.add (i * 2)) = some (.int .i64 e.seg) ∧ w.cell? ⟨(ad.add (i * 2)).block, (ad.add (i * 2)).off + 1, none⟩ = some (.int .i64 e.slot) := by
  have hw : ∀ j u, j < 2 → ([.int .i64 e.seg, .int .i64 e.slot] : List Value)[j]? = some u → w.cell? ((ad.add (i * 2)).add j) = some u := fun j u hj hu => by
    rw [add_of_add]
    exact h _ _ ((flat_at _ 2 (fun _ => rfl) E i e j hi hj).trans hu)
  refine ⟨?_, cell_off (hw 1 _ (by omega) rfl)⟩
  have := hw 0 _ (by omega) rfl
  rwa [show (ad.add (i * 2)).add 0 = ad.add (i * 2) from rfl] at this
theorem what_at {w : World} {ad : Addr} {E : List Ent} {i : Nat} {e : Ent} (h : ∀ j u, (whatC E)[j]? = some u → w.cell? (ad.add j) = some u) (hi : E[i]? = some e) :
    w.cell? (ad.add (i * 7)) = some (.int .u64 e.rc.lsn) ∧ w.cell? ⟨(ad.add (i * 7)).block, (ad.add (i * 7)).off + 1, none⟩ = some (.int .u32 e.rc.epoch) ∧ w.cell? ⟨(ad.add (i * 7)).block, (ad.add (i * 7)).off + 2, none⟩ = some (.int .i64 e.rc.kind) ∧ w.cell? ⟨(ad.add (i * 7)).block, (ad.add (i * 7)).off + 3, none⟩ = some (.int .u64 e.rc.ver) ∧ w.cell? ⟨(ad.add (i * 7)).block, (ad.add (i * 7)).off + 4, none⟩ = some (.int .u64 e.rc.dl) ∧ w.cell? ⟨(ad.add (i * 7)).block, (ad.add (i * 7)).off + 5, none⟩ = some (.string e.rc.id) ∧ w.cell? ⟨(ad.add (i * 7)).block, (ad.add (i * 7)).off + 6, none⟩ = some (.string e.rc.val) := by
  have hw : ∀ j u, j < 7 → ([.int .u64 e.rc.lsn, .int .u32 e.rc.epoch, .int .i64 e.rc.kind, .int .u64 e.rc.ver, .int .u64 e.rc.dl, .string e.rc.id, .string e.rc.val] : List Value)[j]? = some u → w.cell? ((ad.add (i * 7)).add j) = some u := fun j u hj hu => by
    rw [add_of_add]
    exact h _ _ ((flat_at _ 7 (fun _ => rfl) E i e j hi hj).trans hu)
  refine ⟨?_, cell_off (hw 1 _ (by omega) rfl), cell_off (hw 2 _ (by omega) rfl), cell_off (hw 3 _ (by omega) rfl), cell_off (hw 4 _ (by omega) rfl), cell_off (hw 5 _ (by omega) rfl), cell_off (hw 6 _ (by omega) rfl)⟩
  have := hw 0 _ (by omega) rfl
  rwa [show (ad.add (i * 7)).add 0 = ad.add (i * 7) from rfl] at this
theorem locC_snoc (E : List Ent) (e : Ent) : locC (E ++ [e]) = locC E ++ [.int .i64 e.seg, .int .i64 e.slot] := by unfold locC; rw [List.flatMap_append]; rfl
theorem whatC_snoc (E : List Ent) (e : Ent) : whatC (E ++ [e]) = whatC E ++ [.int .u64 e.rc.lsn, .int .u32 e.rc.epoch, .int .i64 e.rc.kind, .int .u64 e.rc.ver, .int .u64 e.rc.dl, .string e.rc.id, .string e.rc.val] := by unfold whatC; rw [List.flatMap_append]; rfl
end Go.Proofs.YthlbciinpidedaaGreat

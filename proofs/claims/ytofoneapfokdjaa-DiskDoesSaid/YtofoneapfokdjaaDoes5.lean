/- The contracts of Same and Do: the disk, and the reference's, side by side. -/
import Derived.Test.YtofoneapfokdjaaDoesPure
import Derived.Test.YtofoneapfokdjaaCopyR5
namespace Go.Proofs.Ytofoneapfokdjaa
set_option linter.unusedSimpArgs false
set_option linter.unusedVariables false
open Go.RowKit
attribute [local go_sem high] run_mx run_mn

section
variable {g : Nat} {d d' : Dsk} {f : Nat} {args : Array Value} {r : Value}
theorem dsk_loc (h : ∀ (b : Nat) (v : Value) (w : World), DskAt w g b v d → Calls Try.prog f args w fun e w' => e = .returned r ∧ ∃ v', DskAt w' g b v' d' ∧ Fr (foot g b v) w w' ∧ ∀ k, foot g b v' k → foot g b v k ∨ w.heap.size ≤ k) : Loc Try.prog f args (dskT g d) r (dskT g d') := by
  rintro w S ⟨b, v, hD, hS⟩
  refine (h b v w hD).mono fun e w' ⟨he, v', h1, h2, h3⟩ => ⟨he, foot g b v', ⟨foot g b v', fun _ => False, ⟨b, v', h1, fun _ => Iff.rfl⟩, fun _ h => h, fun _ _ h => h, fun _ => ⟨.inl, fun h => h.elim id False.elim⟩⟩, h2.mono (fun k _ hk => (hS k).2 hk), fun k hk => ?_⟩
  rcases h3 k hk with h | h
  · exact .inl ((hS k).2 h)
  · exact .inr h
theorem dsk_still (h : ∀ (b : Nat) (v : Value) (w : World), DskAt w g b v d → Calls Try.prog f args w fun e w' => e = .returned r ∧ Below w.heap.size w w') : Loc Try.prog f args (dskT g d) r (dskT g d) :=
  dsk_loc fun b v w hD => (h b v w hD).mono fun e w' ⟨he, hb⟩ => ⟨he, v, hD.below hb, Fr.of_below hb, fun _ h => .inl h⟩
end
theorem LWrite (g : Nat) (d : Dsk) (i : Int) (s : ByteArray) (hp : d.pend.length ≤ 1000000000) : Loc Try.prog 12 #[.pointer (some ⟨g, 0, none⟩), .int .i64 i, .string s] (dskT g d) (.int .i64 (d.writeE i s)) (dskT g (d.writeS i s)) :=
  dsk_loc fun b v w hD => (Write_all g b v d i s w hD hp)
theorem LFlush (g : Nat) (d : Dsk) (hp : d.pend.length ≤ 1000000000) : Loc Try.prog 13 #[.pointer (some ⟨g, 0, none⟩)] (dskT g d) (.int .i64 d.flushE) (dskT g d.flushS) :=
  dsk_loc fun b v w hD => (Flush_all g b v d w hD hp)
theorem LLimit (g : Nat) (d : Dsk) (n : Int) : Loc Try.prog 18 #[.pointer (some ⟨g, 0, none⟩), .int .i64 n] (dskT g d) (.tuple #[]) (dskT g (d.limit n)) :=
  dsk_loc fun b v w hD => (Limit_any g b v d n w hD).mono fun e w' ⟨he, h1, h2⟩ => ⟨he, v, h1, h2, fun _ h => .inl h⟩
theorem LRead (g : Nat) (d : Dsk) (i : Int) (hp : d.pend.length ≤ 1000000000) : Loc Try.prog 16 #[.pointer (some ⟨g, 0, none⟩), .int .i64 i] (dskT g d) (.tuple #[.string (d.readV i), .int .i64 (d.readE i)]) (dskT g d) :=
  dsk_still fun b v w hD => Read_all g b v d i w hD hp
theorem NPending (g : Nat) (d : Dsk) (w : World) (S : Nat → Prop) (h : (dskT g d).is w S) : Calls Try.prog 14 #[.pointer (some ⟨g, 0, none⟩)] w fun e w' => e = .returned (.int .i64 d.pend.length) ∧ Newer w w' := by
  obtain ⟨b, v, hD, _⟩ := h
  exact (Pending_any g b v d w hD).mono fun e w' ⟨he, hw⟩ => ⟨he, hw ▸ Newer.refl w⟩
theorem NLen (g : Nat) (d : Dsk) (w : World) (S : Nat → Prop) (h : (dskT g d).is w S) : Calls Try.prog 31 #[.pointer (some ⟨g, 0, none⟩)] w fun e w' => e = .returned (.int .i64 d.n) ∧ Newer w w' := by
  obtain ⟨b, v, hD, _⟩ := h
  exact (Len_any g b v d w hD).mono fun e w' ⟨he, hw⟩ => ⟨he, hw ▸ Newer.refl w⟩

section
variable {S0 S S' : Nat → Prop} {w0 w v W : World} {pre post : List Thing} {g h : Nat} {d : Dsk} {r : RDsk} {A : Option Addr} {n c : Nat} {bs : List Bool} {t : TypeId}
theorem Dcrash (hO : (dskT g d).is w S) (hK : KeepAt w S A n bs) (torn at_ : Int) (hG : d.Good) (hp : d.pend.length ≤ 1000000000) :
    Calls Try.prog 15 #[.pointer (some ⟨g, 0, none⟩), .slice A n c, .int .i64 torn, .int .i64 at_] w fun e w' => e = .returned (.tuple #[]) ∧ Now S w w' [dskT g (d.crash bs torn at_)] := by
  obtain ⟨b, v, hD, hSf⟩ := hO
  refine (Crash_any g b v d A n c bs torn at_ w hD hG hp ⟨hK.len, fun k hk => ?_⟩).mono fun e w' ⟨he, h3, h4⟩ => ⟨he, ⟨foot g b (.slice none 0 0), ⟨foot g b (.slice none 0 0), fun _ => False, ⟨b, _, h3, fun _ => Iff.rfl⟩, fun _ h => h, fun _ _ h => h, fun _ => ⟨.inl, fun h => h.elim id False.elim⟩⟩, h4.mono (fun k _ hk => (hSf k).2 hk), fun k hk => ?_⟩⟩
  · obtain ⟨ad, e, _, h3, h4⟩ := hK.at_ k hk
    exact ⟨ad, e, fun hf => h3 ((hSf _).2 (by rwa [block_of_add] at hf)), h4⟩
  · rcases hk with hk | hk | hk
    · exact .inl ((hSf k).2 (.inl hk))
    · exact .inl ((hSf k).2 (.inr (.inl hk)))
    · simp [Value.ownBlock] at hk
theorem Now.pcrash (hN : Now S0 w0 w (pre ++ dskT g d :: post)) (hk : ∀ S, (∀ k, S k → S0 k ∨ w0.heap.size ≤ k) → KeepAt w S A n bs) (torn at_ : Int) (hG : d.Good) (hp : d.pend.length ≤ 1000000000) :
    Calls Try.prog 15 #[.pointer (some ⟨g, 0, none⟩), .slice A n c, .int .i64 torn, .int .i64 at_] w fun e w' => e = .returned (.tuple #[]) ∧ Now S0 w0 w' (pre ++ dskT g (d.crash bs torn at_) :: post) := by
  obtain ⟨S, hO, hS, h2⟩ := hN.at_
  exact (Dcrash hO (hk S hS) torn at_ hG hp).mono fun e w' ⟨he, h3⟩ => ⟨he, h2 w' _ h3⟩
theorem Now.rcrash (hN : Now S0 w0 w (pre ++ refT h r :: post)) (hk : ∀ S, (∀ k, S k → S0 k ∨ w0.heap.size ≤ k) → KeepAt w S A n bs) (torn at_ : Int) (hr : r.Fits) (hin : r.Ins) (hG : r.Good) :
    Calls Try.prog 24 #[.pointer (some ⟨h, 0, none⟩), .slice A n c, .int .i64 torn, .int .i64 at_] w fun e w' => e = .returned (.tuple #[]) ∧ Now S0 w0 w' (pre ++ refT h (r.crash bs torn at_) :: post) := by
  obtain ⟨S, hO, hS, h2⟩ := hN.at_
  exact (RCrash_any h r hr hin hG A n c bs torn at_ w S hO (hk S hS)).mono fun e w' ⟨he, h3⟩ => ⟨he, h2 w' _ h3⟩
/-- A row of the call's own tells. -/
theorem KeepAt.row {S1 : Nat → Prop} (h : (Thing.row t 1 (.slice A n c) n (bs.map Value.bool)).is w S1) (hd : ∀ k, S1 k → ¬ S k) : KeepAt w S A n bs := by
  obtain ⟨ho, hS⟩ := h
  obtain ⟨A', c', e, hR⟩ := own_slice ho
  simp only [Value.slice.injEq, true_and] at e
  obtain ⟨rfl, rfl⟩ := e
  have hl : bs.length = n := by have := hR.1; simpa using this
  refine ⟨hl, fun k hk => ?_⟩
  obtain ⟨ad, x, rfl, hb, hx, hc⟩ := hR.at_ hk
  refine ⟨ad, rfl, hb, hd _ ((hS _).2 rfl), ?_⟩
  rw [hc, ← hx, List.getElem?_map, List.getElem?_eq_getElem (by omega)]
  rfl
theorem Now.pcrashRow (hN : Now S0 w0 w (Thing.row t 1 (.slice A n c) n (bs.map Value.bool) :: (pre ++ dskT g d :: post))) (torn at_ : Int) (hG : d.Good) (hp : d.pend.length ≤ 1000000000) :
    Calls Try.prog 15 #[.pointer (some ⟨g, 0, none⟩), .slice A n c, .int .i64 torn, .int .i64 at_] w fun e w' => e = .returned (.tuple #[]) ∧ Now S0 w0 w' (Thing.row t 1 (.slice A n c) n (bs.map Value.bool) :: (pre ++ dskT g (d.crash bs torn at_) :: post)) := by
  obtain ⟨S1, S, hP, hO, hd, h2⟩ := hN.at2
  exact (Dcrash hO (KeepAt.row hP hd) torn at_ hG hp).mono fun e w' ⟨he, h3⟩ => ⟨he, h2 w' _ h3⟩
theorem Now.rcrashRow (hN : Now S0 w0 w (Thing.row t 1 (.slice A n c) n (bs.map Value.bool) :: (pre ++ refT h r :: post))) (torn at_ : Int) (hr : r.Fits) (hin : r.Ins) (hG : r.Good) :
    Calls Try.prog 24 #[.pointer (some ⟨h, 0, none⟩), .slice A n c, .int .i64 torn, .int .i64 at_] w fun e w' => e = .returned (.tuple #[]) ∧ Now S0 w0 w' (Thing.row t 1 (.slice A n c) n (bs.map Value.bool) :: (pre ++ refT h (r.crash bs torn at_) :: post)) := by
  obtain ⟨S1, S, hP, hO, hd, h2⟩ := hN.at2
  exact (RCrash_any h r hr hin hG A n c bs torn at_ w S hO (KeepAt.row hP hd)).mono fun e w' ⟨he, h3⟩ => ⟨he, h2 w' _ h3⟩
/-- A row that the call was handed tells. -/
theorem KeepAt.arg (hb : Below W.heap.size W w) (hz : W.heap.size ≤ w.heap.size) (hS : ∀ k, S k → W.heap.size ≤ k) (hF : Fr S w v) (hS' : ∀ k, S' k → S k ∨ w.heap.size ≤ k) (hl : bs.length = n)
    (hc : ∀ k, k < n → ∃ ad, A = some ad ∧ ad.block < W.heap.size ∧ W.cell? (ad.add k) = some (.bool (bs[k]?.getD false))) : KeepAt v S' A n bs := by
  refine ⟨hl, fun k hk => ?_⟩
  obtain ⟨ad, e, h1, h2⟩ := hc k hk
  refine ⟨ad, e, by have := hF.size; omega, fun h => ?_, ?_⟩
  · rcases hS' _ h with h | h
    · have := hS _ h; omega
    · omega
  · exact hF.cell ((hb.cell (by rw [block_of_add]; exact h1)).trans h2) (fun h => by rw [block_of_add] at h; have := hS _ h; omega)
end

set_option maxRecDepth 100000 in
set_option maxHeartbeats 4000000 in
/-- Same: what the first sectors hold. -/
theorem Same_any (g h : Nat) (d : Dsk) (r : RDsk) (hR : Rel d r) (hp : d.pend.length ≤ 1000000000) (S0 : Nat → Prop) (w0 w : World) (L : List Thing) (hN : Now S0 w0 w (dskT g d :: refT h r :: L)) :
    Calls Try.prog 23 #[.pointer (some ⟨g, 0, none⟩), .pointer (some ⟨h, 0, none⟩)] w fun e w' => e = .returned (.int .i64 1) ∧ Now S0 w0 w' (dskT g d :: refT h r :: L) := by
  have hF := hR.fits hp
  have hlen := hR.len
  go_enter Try.func23, Try.ntmps23
  go_wp2
  go_loopw [5] (fun i wr => ∃ k : Nat, k ≤ r.L.length ∧ i = .int .i64 k ∧ Now S0 w0 wr (dskT g d :: refT h r :: L)) (fun i _ => r.L.length - (intOf i).toNat)
  case atStart => exact ⟨0, by omega, rfl, hN⟩
  case round =>
    clear hN
    obtain ⟨k, hk, rfl, hN⟩ := hrel
    obtain ⟨S, ⟨⟨vL, vW, vX⟩, h1⟩⟩ := Now.get (pre := [_]) hN
    have c0 := (Now.start h1).refCells.1
    obtain ⟨⟨AL, cL, rfl, _⟩, _⟩ := (Now.start h1).refRows
    clear h1
    by_cases hlt : k < r.L.length ∧ k < 64
    · obtain ⟨hlt, hlt2⟩ := hlt
      have e1 : d.readE k = 0 := by unfold Dsk.readE; rw [if_pos (by rw [hR.n]; omega)]
      obtain ⟨e2, e3⟩ := hR.read k
      have r1 := fun w hN => (LRead g d k hp).at_ (S0 := S0) (w0 := w0) (w := w) [] (refT h r :: L) hN
      have r2 := fun w hN => (RRead_all h r k hF).at_ (S0 := S0) (w0 := w0) (w := w) [dskT g d] L hN
      rw [← e2, ← e3, e1] at r2
      rw [e1] at r1
      generalize d.readV (k : Int) = s at r1 r2
      clear e1 e2 e3 hR hF
      go_wp2_with (first
        | (go_at_call 16; with_reducible refine (r1 _ hN).mono ?_; rintro e w1 ⟨rfl, hN1⟩; clear r1 hN c0)
        | (go_at_call 37; with_reducible refine (r2 _ hN1).mono ?_; rintro e w2 ⟨rfl, hN2⟩; clear r2 hN1))
      go_roundw
      case rel => exact ⟨k + 1, by omega, by go_num, hN2⟩
      case measure => simp [intOf]; omega
    · have hgd : (k < r.L.length ∧ ¬ k < 64) ∨ ¬ k < r.L.length := by omega
      have HN := Lib.hid hN
      clear hlt hN
      rcases hgd with ⟨h1, h2⟩ | h1
      all_goals
        go_wp2
        go_ret
        exact ⟨rfl, HN.out⟩
end Go.Proofs.Ytofoneapfokdjaa

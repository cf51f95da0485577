/- What the laws of this seat lean on, part 14. -/
import Derived.Test.YthlbciinpidedaaGreatZK13
import Derived.Test.YthlbciinpidedaaGreatZK7
import Derived.StillTailTactics
/- Several disks of the call's own: each method's contract, all answers in one. -/
namespace Go.Proofs.YthlbciinpidedaaGreat
set_option linter.unusedSimpArgs false
set_option linter.unusedVariables false
set_option maxRecDepth 100000
open Go.RowKit
attribute [local go_sem high] run_mx run_mn

def Dsk.dead (d : Dsk) : Bool := d.lim && decide (d.left < 1)
def Dsk.writeE (d : Dsk) (i : Int) (s : ByteArray) : Int := if 0 ≤ i ∧ i < d.n then (if s.size = 128 then (if d.dead then 9 else 0) else 5) else 1
def Dsk.writeS (d : Dsk) (i : Int) (s : ByteArray) : Dsk := if d.writeE i s = 0 then d.write i s else d
def Dsk.flushE (d : Dsk) : Int := if d.dead then 9 else 0
def Dsk.flushS (d : Dsk) : Dsk := if d.dead then d else d.flush
def Dsk.readE (d : Dsk) (i : Int) : Int := if 0 ≤ i ∧ i < d.n then 0 else 1
def Dsk.readV (d : Dsk) (i : Int) : ByteArray := if 0 ≤ i ∧ i < d.n then d.read i else ⟨#[]⟩
def Dsk.limit (d : Dsk) (n : Int) : Dsk := { d with lim := true, left := n }

theorem Dsk.dead_no {d : Dsk} (h : d.dead = false) : d.lim = false ∨ 1 ≤ d.left := by
  unfold Dsk.dead at h
  cases hl : d.lim with
  | false => exact .inl rfl
  | true => rw [hl] at h; simp at h; exact .inr (by omega)
theorem Dsk.dead_yes {d : Dsk} (h : d.dead = true) : d.lim = true ∧ d.left < 1 := by
  unfold Dsk.dead at h
  simpa using h

theorem Write_all (g b : Nat) (v : Value) (d : Dsk) (i : Int) (s : ByteArray) (w : World) (h : DskAt w g b v d) (hp : d.pend.length ≤ 1000000000) :
    Calls Tryz.prog 87 #[.pointer (some ⟨g, 0, none⟩), .int .i64 i, .string s] w fun e w' => e = .returned (.int .i64 (d.writeE i s)) ∧
      ∃ v', DskAt w' g b v' (d.writeS i s) ∧ Fr (foot g b v) w w' ∧ ∀ k, foot g b v' k → foot g b v k ∨ w.heap.size ≤ k := by
  unfold Dsk.writeS Dsk.writeE
  by_cases hi : 0 ≤ i ∧ i < d.n
  · by_cases hs : s.size = 128
    · cases hd : d.dead with
      | true =>
        rw [if_pos hi, if_pos hs, if_pos rfl, if_neg (by omega)]
        exact (Write_dead g b v d i s w h hi hs (d.dead_yes hd).1 (d.dead_yes hd).2).mono fun e w' ⟨he, hw⟩ => ⟨he, v, hw ▸ h, hw ▸ Fr.refl _ _, fun _ hk => .inl hk⟩
      | false =>
        rw [if_pos hi, if_pos hs, if_neg (by simp), if_pos rfl]
        exact Write_ok g b v d i s w h hi hs (d.dead_no hd) hp
    · rw [if_pos hi, if_neg hs, if_neg (by omega)]
      exact (Write_form g b v d i s w h hi hs).mono fun e w' ⟨he, hw⟩ => ⟨he, v, hw ▸ h, hw ▸ Fr.refl _ _, fun _ hk => .inl hk⟩
  · rw [if_neg hi, if_neg (by omega)]
    exact (Write_bad g b v d i s w h hi).mono fun e w' ⟨he, hw⟩ => ⟨he, v, hw ▸ h, hw ▸ Fr.refl _ _, fun _ hk => .inl hk⟩

theorem Flush_all (g b : Nat) (v : Value) (d : Dsk) (w : World) (h : DskAt w g b v d) (hp : d.pend.length ≤ 1000000000) :
    Calls Tryz.prog 85 #[.pointer (some ⟨g, 0, none⟩)] w fun e w' => e = .returned (.int .i64 d.flushE) ∧
      ∃ v', DskAt w' g b v' d.flushS ∧ Fr (foot g b v) w w' ∧ ∀ k, foot g b v' k → foot g b v k ∨ w.heap.size ≤ k := by
  unfold Dsk.flushS Dsk.flushE
  cases hd : d.dead with
  | true =>
    rw [if_pos rfl, if_pos rfl]
    exact (Flush_dead g b v d w h (d.dead_yes hd).1 (d.dead_yes hd).2).mono fun e w' ⟨he, hw⟩ => ⟨he, v, hw ▸ h, hw ▸ Fr.refl _ _, fun _ hk => .inl hk⟩
  | false =>
    rw [if_neg (by simp), if_neg (by simp)]
    exact (Flush_ok g b v d w h (d.dead_no hd) hp).mono fun e w' ⟨he, hw, hf⟩ => ⟨he, _, hw, hf, fun k hk => by
      rcases hk with hk | hk | hk
      · exact .inl (.inl hk)
      · exact .inl (.inr (.inl hk))
      · simp [Value.ownBlock] at hk⟩

theorem Read_all (g b : Nat) (v : Value) (d : Dsk) (i : Int) (w : World) (h : DskAt w g b v d) (hp : d.pend.length ≤ 1000000000) :
    Calls Tryz.prog 43 #[.pointer (some ⟨g, 0, none⟩), .int .i64 i] w fun e w' => e = .returned (.tuple #[.string (d.readV i), .int .i64 (d.readE i)]) ∧ Below w.heap.size w w' := by
  unfold Dsk.readV Dsk.readE
  by_cases hi : 0 ≤ i ∧ i < d.n
  · rw [if_pos hi, if_pos hi]; exact Read_ok g b v d i w h hi hp
  · rw [if_neg hi, if_neg hi]; exact Read_bad g b v d i w h hi

/-- Where a disk lies. -/
structure Slot where
  g : Nat
  b : Nat
  v : Value
  d : Dsk
def Slot.foot (s : Slot) : Nat → Prop := Go.Proofs.YthlbciinpidedaaGreat.foot s.g s.b s.v
def Slot.at_ (w : World) (s : Slot) : Prop := DskAt w s.g s.b s.v s.d
def Slot.apart (s t : Slot) : Prop := ∀ k, s.foot k → ¬ t.foot k

/-- In w there lie the disks l, each apart from all others and from what lay below B; and below B nothing has turned since W. -/
def Disks (B : Nat) (W w : World) (l : List (Nat × Dsk)) : Prop :=
  ∃ L : List Slot, L.map (fun s => (s.g, s.d)) = l ∧ (∀ s ∈ L, s.at_ w) ∧ L.Pairwise Slot.apart ∧ (∀ s ∈ L, ∀ k, s.foot k → B ≤ k) ∧ Below B W w ∧ B ≤ w.heap.size

section
variable {B : Nat} {W w w' : World} {l pre post : List (Nat × Dsk)} {g : Nat} {d d' : Dsk}
theorem Disks.start (W : World) : Disks W.heap.size W W [] := ⟨[], rfl, by simp, by simp, by simp, Below.refl _ _, Nat.le_refl _⟩
theorem Disks.base (h : Disks B W w l) : Below B W w := by obtain ⟨L, _, _, _, _, hb, _⟩ := h; exact hb
theorem Disks.size (h : Disks B W w l) : B ≤ w.heap.size := by obtain ⟨L, _, _, _, _, _, hb⟩ := h; exact hb
theorem Disks.below (h : Disks B W w l) (hb : Below w.heap.size w w') : Disks B W w' l := by
  obtain ⟨L, e, h1, h2, h3, h4, h5⟩ := h
  exact ⟨L, e, fun s hs => DskAt.below (h1 s hs) hb, h2, h3, h4.trans (hb.mono h5), Nat.le_trans h5 hb.size⟩
theorem Disks.drew (h : Disks B W w l) : Disks B W w.drew l := h.below ⟨rfl, rfl, rfl, Nat.le_refl _, fun _ _ => rfl⟩
theorem Disks.alloc (h : Disks B W w l) (o : Obj) : Disks B W (w.alloc o) l := h.below ((Below.refl _ _).alloc (Nat.le_refl _) o)
/-- What turns a row of the call's own that is no disk's. -/
theorem Disks.fr {S : Nat → Prop} (h : Disks B W w l) (hf : Fr S w w') (hs : ∀ k, k < w.heap.size → S k → B ≤ k) (hn : ∀ L : List Slot, (∀ s ∈ L, s.at_ w) → L.map (fun s => (s.g, s.d)) = l → ∀ s ∈ L, ∀ k, s.foot k → ¬ S k) : Disks B W w' l := by
  obtain ⟨L, e, h1, h2, h3, h4, h5⟩ := h
  exact ⟨L, e, fun s hs' => DskAt.keep (h1 s hs') hf (hn L h1 e s hs'), h2, h3, h4.trans (hf.below h5 hs), Nat.le_trans h5 hf.size⟩
theorem Disks.split (h : Disks B W w (pre ++ (g, d) :: post)) : ∃ b v, DskAt w g b v d ∧
    ∀ w' b' v' d', b' = b → DskAt w' g b' v' d' → Fr (foot g b v) w w' → (∀ k, foot g b' v' k → foot g b v k ∨ w.heap.size ≤ k) → Disks B W w' (pre ++ (g, d') :: post) := by
  obtain ⟨L, e, h1, h2, h3, h4, h5⟩ := h
  obtain ⟨L1, L2, rfl, e1, e2⟩ := List.map_eq_append_iff.1 e
  obtain ⟨s, L3, rfl, e3, e4⟩ := List.map_eq_cons_iff.1 e2
  obtain ⟨g0, b, v, d0⟩ := s
  simp only [Prod.mk.injEq] at e3
  obtain ⟨rfl, rfl⟩ := e3
  have hs : DskAt w g0 b v d0 := h1 ⟨g0, b, v, d0⟩ (by simp)
  refine ⟨b, v, hs, ?_⟩
  rintro w' b' v' d' rfl hD hF hn
  rw [List.pairwise_append, List.pairwise_cons] at h2
  obtain ⟨p1, ⟨p2, p3⟩, p4⟩ := h2
  have hlt : ∀ t : Slot, t ∈ L1 ++ ⟨g0, b', v, d0⟩ :: L3 → ∀ k, t.foot k → k < w.heap.size := fun t ht k hk => DskAt.lt (h1 t ht) hk
  refine ⟨L1 ++ ⟨g0, b', v', d'⟩ :: L3, by simp [e1, e4], ?_, ?_, ?_, ?_, Nat.le_trans h5 hF.size⟩
  · intro t ht
    rcases List.mem_append.1 ht with ht | ht
    · exact DskAt.keep (h1 t (by simp [ht])) hF (fun k hk hk' => p4 t ht ⟨g0, b', v, d0⟩ (by simp) k hk hk')
    · rcases List.mem_cons.1 ht with rfl | ht
      · exact hD
      · exact DskAt.keep (h1 t (by simp [ht])) hF (fun k hk hk' => p2 t ht k hk' hk)
  · rw [List.pairwise_append, List.pairwise_cons]
    refine ⟨p1, ⟨fun t ht k hk hk' => ?_, p3⟩, fun t ht u hu => ?_⟩
    · rcases hn k hk with h | h
      · exact p2 t ht k h hk'
      · have := hlt t (by simp [ht]) k hk'; omega
    · rcases List.mem_cons.1 hu with rfl | hu
      · intro k hk hk'
        rcases hn k hk' with h | h
        · exact p4 t ht ⟨g0, b', v, d0⟩ (by simp) k hk h
        · have := hlt t (by simp [ht]) k hk; omega
      · exact p4 t ht u (by simp [hu])
  · intro t ht k hk
    rcases List.mem_append.1 ht with ht | ht
    · exact h3 t (by simp [ht]) k hk
    · rcases List.mem_cons.1 ht with rfl | ht
      · rcases hn k hk with h | h
        · exact h3 ⟨g0, b', v, d0⟩ (by simp) k h
        · omega
      · exact h3 t (by simp [ht]) k hk
  · exact h4.trans (hF.below h5 (fun k _ hk => h3 ⟨g0, b', v, d0⟩ (by simp) k hk))
theorem Disks.push (h : Disks B W w l) {b : Nat} {v : Value} (hb : Below w.heap.size w w') (hD : DskAt w' g b v d) (hn : ∀ k, foot g b v k → w.heap.size ≤ k) : Disks B W w' (l ++ [(g, d)]) := by
  obtain ⟨L, e, h1, h2, h3, h4, h5⟩ := h
  refine ⟨L ++ [⟨g, b, v, d⟩], by simp [e], ?_, ?_, ?_, h4.trans (hb.mono h5), Nat.le_trans h5 hb.size⟩
  · intro t ht
    rcases List.mem_append.1 ht with ht | ht
    · exact DskAt.below (h1 t ht) hb
    · simp at ht; subst ht; exact hD
  · rw [List.pairwise_append]
    refine ⟨h2, by simp, fun t ht u hu k hk hk' => ?_⟩
    simp at hu; subst hu
    have := hn k hk'
    have := DskAt.lt (h1 t ht) hk
    omega
  · intro t ht k hk
    rcases List.mem_append.1 ht with ht | ht
    · exact h3 t ht k hk
    · simp at ht; subst ht; have := hn k hk; omega
end

section
variable {B : Nat} {W w : World} {l : List (Nat × Dsk)} {g : Nat} {d : Dsk}
theorem DNew (h : Disks B W w l) (n : Int) (h1 : 1 ≤ n) (h2 : n ≤ 4096) :
    Calls Tryz.prog 53 #[.int .i64 n] w fun e w' => ∃ g, e = .returned (.tuple #[.pointer (some ⟨g, 0, none⟩), .int .i64 0]) ∧ Disks B W w' (l ++ [(g, newDsk n)]) ∧ Blk w' g 123 #[.bool false, .int .i64 0, .int .i64 n, .map (some w.heap.size), .slice none 0 0] :=
  (New_ok n w h1 h2).mono fun _ _ ⟨he, hD, hb⟩ => ⟨_, he, h.push hb hD (fun k hk => by
    rcases hk with rfl | rfl | hk
    · omega
    · omega
    · simp [Value.ownBlock] at hk), hD.blk⟩
theorem DNewBad (h : Disks B W w l) (n : Int) (h1 : n < 1 ∨ 4096 < n) :
    Calls Tryz.prog 53 #[.int .i64 n] w fun e w' => e = .returned (.tuple #[.pointer none, .int .i64 1]) ∧ Disks B W w' l :=
  (New_bad n w h1).mono fun _ _ ⟨he, hw⟩ => ⟨he, hw ▸ h⟩
theorem DWrite (pre post : List (Nat × Dsk)) (h : Disks B W w (pre ++ (g, d) :: post)) (i : Int) (s : ByteArray) (hp : d.pend.length ≤ 1000000000) :
    Calls Tryz.prog 87 #[.pointer (some ⟨g, 0, none⟩), .int .i64 i, .string s] w fun e w' => e = .returned (.int .i64 (d.writeE i s)) ∧ Disks B W w' (pre ++ (g, d.writeS i s) :: post) := by
  obtain ⟨b, v, hD, hk⟩ := h.split
  exact (Write_all g b v d i s w hD hp).mono fun e w' ⟨he, v', h1, h2, h3⟩ => ⟨he, hk w' b v' _ rfl h1 h2 h3⟩
theorem DFlush (pre post : List (Nat × Dsk)) (h : Disks B W w (pre ++ (g, d) :: post)) (hp : d.pend.length ≤ 1000000000) :
    Calls Tryz.prog 85 #[.pointer (some ⟨g, 0, none⟩)] w fun e w' => e = .returned (.int .i64 d.flushE) ∧ Disks B W w' (pre ++ (g, d.flushS) :: post) := by
  obtain ⟨b, v, hD, hk⟩ := h.split
  exact (Flush_all g b v d w hD hp).mono fun e w' ⟨he, v', h1, h2, h3⟩ => ⟨he, hk w' b v' _ rfl h1 h2 h3⟩
theorem DLimit (pre post : List (Nat × Dsk)) (h : Disks B W w (pre ++ (g, d) :: post)) (n : Int) :
    Calls Tryz.prog 15 #[.pointer (some ⟨g, 0, none⟩), .int .i64 n] w fun e w' => e = .returned (.tuple #[]) ∧ Disks B W w' (pre ++ (g, d.limit n) :: post) := by
  obtain ⟨b, v, hD, hk⟩ := h.split
  exact (Limit_any g b v d n w hD).mono fun e w' ⟨he, h1, h2⟩ => ⟨he, hk w' b v _ rfl h1 h2 (fun _ h => .inl h)⟩
theorem DCrash (pre post : List (Nat × Dsk)) (h : Disks B W w (pre ++ (g, d) :: post)) (A : Option Addr) (n c : Nat) (bs : List Bool) (torn at_ : Int) (hG : d.Good) (hp : d.pend.length ≤ 1000000000) (hk : ∀ b v, DskAt w g b v d → (∀ k, foot g b v k → B ≤ k) → Bools w (foot g b v) A n bs) :
    Calls Tryz.prog 45 #[.pointer (some ⟨g, 0, none⟩), .slice A n c, .int .i64 torn, .int .i64 at_] w fun e w' => e = .returned (.tuple #[]) ∧ Disks B W w' (pre ++ (g, d.crash bs torn at_) :: post) := by
  have hbase : ∃ L : List Slot, L.map (fun s => (s.g, s.d)) = pre ++ (g, d) :: post ∧ (∀ s ∈ L, s.at_ w) ∧ (∀ s ∈ L, ∀ k, s.foot k → B ≤ k) := by
    obtain ⟨L, e, h1, _, h3, _⟩ := h
    exact ⟨L, e, h1, h3⟩
  obtain ⟨b, v, hD, hk'⟩ := h.split
  have hB : ∀ k, foot g b v k → B ≤ k := by
    obtain ⟨L, e, h1, h3⟩ := hbase
    have hm : (g, d) ∈ L.map (fun s => (s.g, s.d)) := by rw [e]; simp
    obtain ⟨s, hs, es⟩ := List.mem_map.1 hm
    simp only [Prod.mk.injEq] at es
    obtain ⟨e1, e2⟩ := es
    have hDs := h1 s hs
    unfold Slot.at_ at hDs
    rw [e1] at hDs
    have hb := hD.blk
    unfold Blk at hb
    have hb2 := hDs.blk
    unfold Blk at hb2
    rw [hb] at hb2
    simp only [Option.some.injEq, Obj.cells.injEq] at hb2
    have hb3 := hb2.1
    simp at hb3
    obtain ⟨_, _, _, hmb, hvv⟩ := hb3
    intro k hkk
    refine h3 s hs k ?_
    unfold Slot.foot
    rw [e1, ← hmb, ← hvv]
    exact hkk
  exact (Crash_any g b v d A n c bs torn at_ w hD hG hp (hk b v hD hB)).mono fun e w' ⟨he, h1, h2⟩ => ⟨he, hk' w' b _ _ rfl h1 h2 (fun k hk => by
    rcases hk with hk | hk | hk
    · exact .inl (.inl hk)
    · exact .inl (.inr (.inl hk))
    · simp [Value.ownBlock] at hk)⟩
theorem DRead (pre post : List (Nat × Dsk)) (h : Disks B W w (pre ++ (g, d) :: post)) (i : Int) (hp : d.pend.length ≤ 1000000000) :
    Calls Tryz.prog 43 #[.pointer (some ⟨g, 0, none⟩), .int .i64 i] w fun e w' => e = .returned (.tuple #[.string (d.readV i), .int .i64 (d.readE i)]) ∧ Disks B W w' (pre ++ (g, d) :: post) := by
  obtain ⟨b, v, hD, _⟩ := h.split
  exact (Read_all g b v d i w hD hp).mono fun e w' ⟨he, hb⟩ => ⟨he, h.below hb⟩
theorem DPending (pre post : List (Nat × Dsk)) (h : Disks B W w (pre ++ (g, d) :: post)) :
    Calls Tryz.prog 17 #[.pointer (some ⟨g, 0, none⟩)] w fun e w' => e = .returned (.int .i64 d.pend.length) ∧ w = w' := by
  obtain ⟨b, v, hD, _⟩ := h.split
  exact Pending_any g b v d w hD
theorem DLen (pre post : List (Nat × Dsk)) (h : Disks B W w (pre ++ (g, d) :: post)) :
    Calls Tryz.prog 98 #[.pointer (some ⟨g, 0, none⟩)] w fun e w' => e = .returned (.int .i64 d.n) ∧ w = w' := by
  obtain ⟨b, v, hD, _⟩ := h.split
  exact Len_any g b v d w hD
end
end Go.Proofs.YthlbciinpidedaaGreat
/- The reference's disk as a plain thing, how it lies in memory, and the contracts of its methods. -/
namespace Go.Proofs.YthlbciinpidedaaGreat
set_option linter.unusedSimpArgs false
set_option linter.unusedVariables false
set_option maxRecDepth 100000
open Go.RowKit
attribute [local go_sem high] run_mx run_mn

/-- The reference's disk: what the sectors hold, what is pending, how many more are done (below 0: any many). -/
structure RDsk where
  L : List ByteArray
  pend : List (Int × ByteArray)
  left : Int
abbrev strs (l : List ByteArray) : List Value := l.map Value.string
abbrev wheres (l : List (Int × ByteArray)) : List Value := l.map fun p => Value.int .i64 p.1
abbrev whats (l : List (Int × ByteArray)) : List Value := l.map fun p => Value.string p.2
theorem wheres_snoc (l : List (Int × ByteArray)) (p : Int × ByteArray) : wheres (l ++ [p]) = wheres l ++ [Value.int .i64 p.1] := by simp [wheres]
theorem whats_snoc (l : List (Int × ByteArray)) (p : Int × ByteArray) : whats (l ++ [p]) = whats l ++ [Value.string p.2] := by simp [whats]
/-- The blocks of the reference's disk. -/
abbrev refParts (h : Nat) (vL vW vX : Value) (L : List ByteArray) (pd : List (Int × ByteArray)) (left : Int) : List Thing :=
  [Thing.cells h 77 #[vL, vW, vX, .int .i64 left], Thing.row 9 1 vL L.length (strs L), Thing.row 3 1 vW pd.length (wheres pd), Thing.row 9 1 vX pd.length (whats pd)]
def refT (h : Nat) (r : RDsk) : Thing := Thing.ex fun v : Value × Value × Value => Thing.all (refParts h v.1 v.2.1 v.2.2 r.L r.pend r.left)
def dskT (g : Nat) (d : Dsk) : Thing where
  is w S := ∃ b v, DskAt w g b v d ∧ ∀ k, S k ↔ foot g b v k
  keep := by
    rintro w w' S T ⟨b, v, h, hS⟩ hF hn
    exact ⟨b, v, h.keep hF (fun k hk => hn k ((hS k).2 hk)), hS⟩
  lt := by
    rintro w S k ⟨b, v, h, hS⟩ hk
    exact h.lt ((hS k).1 hk)

section
variable {S S0 : Nat → Prop} {w0 w w' : World} {h : Nat} {r r' : RDsk} {vL vW vX : Value} {L : List Thing} {Ls : List ByteArray} {pd : List (Int × ByteArray)} {left : Int}
theorem Now.refOpen (hN : Now S0 w0 w [refT h r]) : ∃ vL vW vX, Now S0 w0 w (refParts h vL vW vX r.L r.pend r.left) := by
  obtain ⟨S, ⟨S1, S2, ⟨⟨vL, vW, vX⟩, h1⟩, h2, hd, hS⟩, hF, hk⟩ := hN
  exact ⟨vL, vW, vX, S1, h1, hF, fun k h => hk k ((hS k).2 (.inl h))⟩
theorem Now.refClose (hN : Now S0 w0 w (refParts h vL vW vX Ls pd left)) : Now S0 w0 w [refT h ⟨Ls, pd, left⟩] := by
  obtain ⟨S, h1, h2⟩ := hN
  exact ⟨S, ⟨S, fun _ => False, ⟨(vL, vW, vX), h1⟩, fun _ h => h, fun _ _ h => h, fun _ => ⟨.inl, fun h => h.elim id False.elim⟩⟩, h2⟩
theorem Now.refCells (hN : Now S0 w0 w (refParts h vL vW vX Ls pd left)) : w.cell? ⟨h, 0, none⟩ = some vL ∧ w.cell? ⟨h, 1, none⟩ = some vW ∧ w.cell? ⟨h, 2, none⟩ = some vX ∧ w.cell? ⟨h, 3, none⟩ = some (.int .i64 left) ∧ ∀ i, w.frozen? ⟨h, i, none⟩ = false := by
  have hb := Now.blk (pre := []) hN
  refine ⟨?_, ?_, ?_, ?_, fun i => hb.frozen i⟩ <;> (rw [hb.cell]; rfl)
/-- The three rows, as slices. -/
theorem Now.refRows (hN : Now S0 w0 w (refParts h vL vW vX Ls pd left)) : (∃ A c, vL = .slice A Ls.length c ∧ Reads w w.heap.size 1 A Ls.length (strs Ls)) ∧ (∃ A c, vW = .slice A pd.length c ∧ Reads w w.heap.size 1 A pd.length (wheres pd)) ∧ ∃ A c, vX = .slice A pd.length c ∧ Reads w w.heap.size 1 A pd.length (whats pd) :=
  ⟨own_slice (Now.row (pre := [_]) hN), own_slice (Now.row (pre := [_, _]) hN), own_slice (Now.row (pre := [_, _, _]) hN)⟩
end

def RDsk.use (r : RDsk) : RDsk := { r with left := if 0 < r.left then r.left - 1 else r.left }
set_option maxRecDepth 100000 in
theorem Ruse_any (h : Nat) (r : RDsk) (hr : r.left ≤ 9223372036854775807) (hr2 : -9223372036854775808 ≤ r.left) : Loc Tryz.prog 135 #[.pointer (some ⟨h, 0, none⟩)] (refT h r) (.bool (decide (r.left ≠ 0))) (refT h r.use) := by
  intro w S hO
  obtain ⟨vL, vW, vX, hN⟩ := (Now.start1 hO).refOpen
  obtain ⟨c0, c1, c2, c3, cf⟩ := hN.refCells
  have f3 := cf 3
  have hset := Now.set_ (pre := []) hN 3 (.int .i64 (r.left - 1))
  unfold RDsk.use
  obtain ⟨L, pd, left⟩ := r
  simp only at *
  clear c0 c1 c2 cf hO
  have hcase : left < 0 ∨ left = 0 ∨ 0 < left := by omega
  rcases hcase with hc | hc | hc
  · have e : decide (left ≠ 0) = true := by simp; omega
    rw [e, if_neg (by omega)]
    have HN := Lib.hid hN
    clear hset hN e
    go_enter Tryz.func135, Tryz.ntmps135
    go_wp2
    go_ret
    exact ⟨rfl, HN.out.refClose⟩
  · subst hc
    have HN := Lib.hid hN
    clear hset hN
    go_enter Tryz.func135, Tryz.ntmps135
    go_wp2
    go_ret
    exact ⟨rfl, HN.out.refClose⟩
  · have e : decide (left ≠ 0) = true := by simp; omega
    rw [e, if_pos hc]
    have HN := Lib.hid hset
    clear hset hN e
    go_enter Tryz.func135, Tryz.ntmps135
    go_wp2
    go_ret
    exact ⟨rfl, HN.out.refClose⟩

def RDsk.writeE (r : RDsk) (i : Int) (s : ByteArray) : Int := if 0 ≤ i ∧ i < r.L.length then (if s.size = 128 then (if r.left = 0 then 9 else 0) else 5) else 1
def RDsk.write (r : RDsk) (i : Int) (s : ByteArray) : RDsk := { r.use with pend := r.pend ++ [(i, s)] }
def RDsk.writeS (r : RDsk) (i : Int) (s : ByteArray) : RDsk := if r.writeE i s = 0 then r.write i s else r
structure RDsk.Fits (r : RDsk) : Prop where
  pos : 0 < r.L.length
  lo : -9223372036854775808 ≤ r.left
  hi : r.left ≤ 9223372036854775807
  len : r.L.length ≤ 4096
  pend : r.pend.length ≤ 1000000000

theorem infoStr5 : (Tryz.prog.info? 9).map (fun i => (i.zero, i.size, i.bytes)) = some (some (.string ByteArray.empty), 1, 16) := by kernel_rfl
theorem infoInt5 : (Tryz.prog.info? 3).map (fun i => (i.zero, i.size, i.bytes)) = some (some (.int .i64 0), 1, 8) := by kernel_rfl

theorem RWrite_bad (h : Nat) (r : RDsk) (i : Int) (s : ByteArray) (hr : r.Fits) (hi : ¬ (0 ≤ i ∧ i < r.L.length)) :
    Loc Tryz.prog 110 #[.pointer (some ⟨h, 0, none⟩), .int .i64 i, .string s] (refT h r) (.int .i64 1) (refT h r) := by
  intro w S hO
  obtain ⟨vL, vW, vX, hN⟩ := (Now.start1 hO).refOpen
  obtain ⟨c0, c1, c2, c3, cf⟩ := hN.refCells
  obtain ⟨⟨A, c, rfl, _⟩, _⟩ := hN.refRows
  have HN := Lib.hid hN
  clear hN c1 c2 c3 cf hO hr
  by_cases h0 : i < 0
  · go_enter Tryz.func110, Tryz.ntmps110
    go_wp2
    go_ret
    exact ⟨rfl, HN.out.refClose⟩
  · have h1 : (r.L.length : Int) ≤ i := by omega
    clear hi
    go_enter Tryz.func110, Tryz.ntmps110
    go_wp2
    go_ret
    exact ⟨rfl, HN.out.refClose⟩
theorem RWrite_form (h : Nat) (r : RDsk) (i : Int) (s : ByteArray) (hr : r.Fits) (hi : 0 ≤ i ∧ i < r.L.length) (hs : s.size ≠ 128) :
    Loc Tryz.prog 110 #[.pointer (some ⟨h, 0, none⟩), .int .i64 i, .string s] (refT h r) (.int .i64 5) (refT h r) := by
  intro w S hO
  obtain ⟨vL, vW, vX, hN⟩ := (Now.start1 hO).refOpen
  obtain ⟨c0, c1, c2, c3, cf⟩ := hN.refCells
  obtain ⟨⟨A, c, rfl, _⟩, _⟩ := hN.refRows
  have HN := Lib.hid hN
  have hs2 : ¬ (s.size : Int) = 128 := by omega
  obtain ⟨hi1, hi2⟩ := hi
  clear hN c1 c2 c3 cf hO hr hs
  go_enter Tryz.func110, Tryz.ntmps110
  go_wp2
  go_ret
  exact ⟨rfl, HN.out.refClose⟩
set_option maxRecDepth 100000 in
theorem RWrite_dead (h : Nat) (r : RDsk) (i : Int) (s : ByteArray) (hr : r.Fits) (hi : 0 ≤ i ∧ i < r.L.length) (hs : s.size = 128) (hl : r.left = 0) :
    Loc Tryz.prog 110 #[.pointer (some ⟨h, 0, none⟩), .int .i64 i, .string s] (refT h r) (.int .i64 9) (refT h r) := by
  intro w S hO
  have hu := Ruse_any h r hr.hi hr.lo w S hO
  have e1 : decide (r.left ≠ 0) = false := by simp [hl]
  have e2 : r.use = r := by unfold RDsk.use; rw [if_neg (by omega)]
  rw [e1, e2] at hu
  obtain ⟨vL, vW, vX, hN⟩ := (Now.start1 hO).refOpen
  obtain ⟨c0, c1, c2, c3, cf⟩ := hN.refCells
  obtain ⟨⟨A, c, rfl, _⟩, _⟩ := hN.refRows
  have hs1 : (s.size : Int) ≤ 128 := by omega
  have hs2 : (128 : Int) ≤ s.size := by omega
  obtain ⟨hi1, hi2⟩ := hi
  clear hN c1 c2 c3 cf hO hr hs hl e1 e2
  go_enter Tryz.func110, Tryz.ntmps110
  go_wp2_with (go_at_call 135; refine hu.mono ?_; rintro e w1 ⟨rfl, hN1⟩)
  go_ret
  exact ⟨rfl, hN1⟩

set_option maxRecDepth 100000 in
set_option maxHeartbeats 1600000 in
theorem RWrite_ok (h : Nat) (r : RDsk) (i : Int) (s : ByteArray) (hr : r.Fits) (hi : 0 ≤ i ∧ i < r.L.length) (hs : s.size = 128) (hl : r.left ≠ 0) :
    Loc Tryz.prog 110 #[.pointer (some ⟨h, 0, none⟩), .int .i64 i, .string s] (refT h r) (.int .i64 0) (refT h (r.write i s)) := by
  intro w S hO
  obtain ⟨i0, hi0, hz0, hz1, hz2⟩ := info_parts infoInt5
  obtain ⟨j0, hj0, hy0, hy1, hy2⟩ := info_parts infoStr5
  have hu := Ruse_any h r hr.hi hr.lo w S hO
  have e1 : decide (r.left ≠ 0) = true := by simpa using hl
  rw [e1] at hu
  obtain ⟨vL, vW, vX, hN⟩ := (Now.start1 hO).refOpen
  obtain ⟨c0, c1, c2, c3, cf⟩ := hN.refCells
  obtain ⟨⟨A, c, rfl, _⟩, _⟩ := hN.refRows
  have hs1 : (s.size : Int) ≤ 128 := by omega
  have hs2 : (128 : Int) ≤ s.size := by omega
  obtain ⟨hi1, hi2⟩ := hi
  have hp := hr.pend
  have hm1 : r.pend.length + 1 ≤ maxLen := by unfold maxLen; omega
  have hm2 : (r.pend.length + 1) * 8 ≤ 140737488355328 := by omega
  have hm3 : (r.pend.length + 1) * 16 ≤ 140737488355328 := by omega
  clear hN c1 c2 c3 cf hO hr hs hl e1
  go_enter Tryz.func110, Tryz.ntmps110
  go_wp2_with (first
    | (go_at_call 135; refine hu.mono ?_; rintro e w1 ⟨rfl, hN1⟩; obtain ⟨vL1, vW1, vX1, hN1⟩ := hN1.refOpen; replace hN1 : Now S w w1 (refParts h vL1 vW1 vX1 r.L r.pend r.use.left) := hN1; obtain ⟨c0, c1, c2, c3, cf⟩ := hN1.refCells; have f1 := cf 1; obtain ⟨_, ⟨AW, cW, rfl, _⟩, ⟨AX, cX, rfl, _⟩⟩ := hN1.refRows; have hoW := Now.row (pre := [_, _]) hN1; clear hu cf)
    | (at_builtin; refine wpList_app1 _ rfl _ _ 52 rfl 0 3 Tryz.underlying52 hi0 hz0 hz1 hz2 rfl hoW rfl rfl rfl hm1 hm2 (Nat.zero_le _) ?_; intro vW2 w2 ho hg hn; obtain ⟨AV, cV, rfl, _⟩ := own_slice ho; have hN2 := Now.grown (pre := [_, _]) hN1 ho hg (hn.imp id fun h => ⟨_, by omega, h⟩); have hb2 := Now.blk (pre := []) hN2; have c1 : w2.cell? ⟨h, 1, none⟩ = some (.slice AW r.pend.length cW) := hb2.cell 1; have c2 : w2.cell? ⟨h, 2, none⟩ = some (.slice AX r.pend.length cX) := hb2.cell 2; have f1 := hb2.frozen 1; have f2 := hb2.frozen 2; have hN3 := Now.set_ (pre := []) hN2 1 (.slice AV (r.pend.length + 1) cV); have hoX := Now.row (pre := [_, _, _]) hN3; clear hN1 hN2 hb2 hoW ho hg hn c0 c3)
    | (at_builtin; refine wpList_app1s _ rfl _ _ 75 rfl 0 9 Tryz.underlying75 hj0 hy0 hy1 hy2 rfl hoX rfl (by simp [World.setCell]) rfl rfl hm1 hm3 (Nat.zero_le _) ?_; intro vX2 w4 ho hg hn; obtain ⟨AY, cY, rfl, _⟩ := own_slice ho; have hN4 := Now.grown (pre := [_, _, _]) hN3 ho hg (hn.imp id fun h => ⟨_, by omega, h⟩); have hb4 := Now.blk (pre := []) hN4; have c2 : w4.cell? ⟨h, 2, none⟩ = some (.slice AX r.pend.length cX) := hb4.cell 2; have f2 := hb4.frozen 2; have hN5 := Now.set_ (pre := []) hN4 2 (.slice AY (r.pend.length + 1) cY); have HN := Lib.hid hN5; clear hN3 hN4 hN5 hb4 hoX ho hg hn))
  go_ret
  refine ⟨rfl, Now.refClose (vL := vL1) (vW := .slice AV (r.pend.length + 1) cV) (vX := .slice AY (r.pend.length + 1) cY) ?_⟩
  have := HN.out
  show Now S w _ [_, _, Thing.row _ 1 _ (r.pend ++ [(i, s)]).length (wheres (r.pend ++ [(i, s)])), Thing.row _ 1 _ (r.pend ++ [(i, s)]).length (whats (r.pend ++ [(i, s)]))]
  rw [wheres_snoc, whats_snoc, List.length_append]
  exact this

theorem RWrite_all (h : Nat) (r : RDsk) (i : Int) (s : ByteArray) (hr : r.Fits) : Loc Tryz.prog 110 #[.pointer (some ⟨h, 0, none⟩), .int .i64 i, .string s] (refT h r) (.int .i64 (r.writeE i s)) (refT h (r.writeS i s)) := by
  unfold RDsk.writeS RDsk.writeE
  by_cases hi : 0 ≤ i ∧ i < r.L.length
  · rw [if_pos hi]
    by_cases hs : s.size = 128
    · rw [if_pos hs]
      by_cases hl : r.left = 0
      · rw [if_pos hl, if_neg (by omega)]; exact RWrite_dead h r i s hr hi hs hl
      · rw [if_neg hl, if_pos rfl]; exact RWrite_ok h r i s hr hi hs hl
    · rw [if_neg hs, if_neg (by omega)]; exact RWrite_form h r i s hr hi hs
  · rw [if_neg hi, if_neg (by omega)]; exact RWrite_bad h r i s hr hi

def RDsk.limit (r : RDsk) (n : Int) : RDsk := { r with left := max 0 n }
theorem RLimit_any (h : Nat) (r : RDsk) (n : Int) : Loc Tryz.prog 29 #[.pointer (some ⟨h, 0, none⟩), .int .i64 n] (refT h r) (.tuple #[]) (refT h (r.limit n)) := by
  intro w S hO
  obtain ⟨vL, vW, vX, hN⟩ := (Now.start1 hO).refOpen
  obtain ⟨c0, c1, c2, c3, cf⟩ := hN.refCells
  have f3 := cf 3
  have hset := Now.set_ (pre := []) hN 3 (.int .i64 (max 0 n))
  unfold RDsk.limit
  have HN := Lib.hid hset
  clear hset hN c0 c1 c2 cf hO
  go_enter Tryz.func29, Tryz.ntmps29
  go_wp2
  go_end0
  exact ⟨rfl, HN.out.refClose⟩

def putAll (L : List ByteArray) (pd : List (Int × ByteArray)) : List ByteArray := pd.foldl (fun L p => L.set p.1.toNat p.2) L
theorem putAll_len (pd : List (Int × ByteArray)) : ∀ L, (putAll L pd).length = L.length := by
  induction pd with
  | nil => intro L; rfl
  | cons p pd ih => intro L; exact (ih _).trans (List.length_set ..)
theorem putAll_succ (L : List ByteArray) (pd : List (Int × ByteArray)) (k : Nat) {p : Int × ByteArray} (hp : pd[k]? = some p) : putAll L (pd.take (k + 1)) = (putAll L (pd.take k)).set p.1.toNat p.2 := by
  obtain ⟨hk, rfl⟩ := List.getElem?_eq_some_iff.1 hp
  rw [List.take_succ_eq_append_getElem hk]
  unfold putAll
  rw [List.foldl_append]
  rfl
def RDsk.flushE (r : RDsk) : Int := if r.left = 0 then 9 else 0
def RDsk.flush (r : RDsk) : RDsk := { r.use with L := putAll r.L r.pend, pend := [] }
def RDsk.flushS (r : RDsk) : RDsk := if r.left = 0 then r else r.flush
/-- What is pending is of sectors that there are. -/
def RDsk.Ins (r : RDsk) : Prop := ∀ p ∈ r.pend, 0 ≤ p.1 ∧ p.1 < r.L.length

theorem reads_cell {w : World} {B : Nat} {A : Option Addr} {n : Nat} {xs : List Value} (h : Reads w B 1 A n xs) {k : Nat} (hk : k < n) {u : Value} (hu : xs[k]? = some u) : ∃ ad, A = some ad ∧ w.cell? (ad.add k) = some u := by
  obtain ⟨ad, v, e, _, hx, hc⟩ := h.at_ hk
  rw [hu] at hx
  cases hx
  exact ⟨ad, e, hc⟩

set_option maxRecDepth 100000 in
set_option maxHeartbeats 1600000 in
theorem RFlush_ok (h : Nat) (r : RDsk) (hr : r.Fits) (hin : r.Ins) (hl : r.left ≠ 0) : Loc Tryz.prog 108 #[.pointer (some ⟨h, 0, none⟩)] (refT h r) (.int .i64 0) (refT h r.flush) := by
  intro w S hO
  have hu := Ruse_any h r hr.hi hr.lo w S hO
  have e1 : decide (r.left ≠ 0) = true := by simpa using hl
  rw [e1] at hu
  have hp := hr.pend
  have hpos := hr.pos
  have hlen := hr.len
  clear hO hr hl e1
  go_enter Tryz.func108, Tryz.ntmps108
  go_wp2_with (go_at_call 135; refine hu.mono ?_; rintro e w1 ⟨rfl, hN1⟩; clear hu)
  obtain ⟨vL, vW, vX, hN⟩ := hN1.refOpen
  replace hN : Now S w w1 (refParts h vL vW vX r.L r.pend r.use.left) := hN
  obtain ⟨rL, cL, cur, rfl, _⟩ := row_form (Now.row (pre := [_]) hN) hpos
  obtain ⟨_, ⟨AW, cW, rfl, _⟩, ⟨AX, cX, rfl, _⟩⟩ := hN.refRows
  clear hN1
  go_loopw [3] (fun i wr => ∃ k : Nat, k ≤ r.pend.length ∧ i = .int .i64 k ∧ Now S w wr (refParts h (.slice (some ⟨rL, 0, none⟩) r.L.length cL) (.slice AW r.pend.length cW) (.slice AX r.pend.length cX) (putAll r.L (r.pend.take k)) r.pend r.use.left)) (fun i _ => r.pend.length - (intOf i).toNat)
  case atStart => exact ⟨0, by omega, rfl, hN⟩
  case round =>
    clear hN
    obtain ⟨k, hk, rfl, hN⟩ := hrel
    obtain ⟨c0, c1, c2, c3, cf⟩ := hN.refCells
    by_cases hlt : k < r.pend.length
    · obtain ⟨_, ⟨A1, d1, e1, r1⟩, ⟨A2, d2, e2, r2⟩⟩ := hN.refRows
      cases e1
      cases e2
      have hpk : r.pend[k]? = some r.pend[k] := List.getElem?_eq_getElem hlt
      obtain ⟨adW, rfl, g1⟩ := reads_cell (u := .int .i64 r.pend[k].1) r1 hlt (by rw [List.getElem?_map, hpk]; rfl)
      obtain ⟨adX, rfl, g2⟩ := reads_cell (u := .string r.pend[k].2) r2 hlt (by rw [List.getElem?_map, hpk]; rfl)
      have hs := Lib.hid (putAll_succ r.L r.pend k hpk)
      have hq0 := hin _ (List.getElem_mem hlt)
      generalize r.pend[k] = p at *
      obtain ⟨q, hq⟩ : ∃ q : Nat, p.1 = q := ⟨p.1.toNat, by omega⟩
      have hqn : q < r.L.length := by omega
      have hrow := Now.row (pre := [_]) hN
      rw [putAll_len] at hrow
      obtain ⟨a1, a2⟩ := row_at hrow hqn
      have hqt : p.1.toNat = q := by omega
      rw [hqt] at hs
      rw [hq] at g1
      have hql : q < (strs (putAll r.L (r.pend.take k))).length := by rw [List.length_map, putAll_len]; exact hqn
      obtain ⟨old, hold⟩ : ∃ old, (strs (putAll r.L (r.pend.take k)))[q]? = some old := ⟨_, List.getElem?_eq_getElem hql⟩
      rw [hold] at a1
      have hset : Now S w (wr.setCell ⟨rL, q, none⟩ (.string p.2)) (refParts h (.slice (some ⟨rL, 0, none⟩) r.L.length cL) (.slice (some adW) r.pend.length cW) (.slice (some adX) r.pend.length cX) (putAll r.L (r.pend.take (k + 1))) r.pend r.use.left) := by
        have hN' := hN
        unfold refParts at hN' ⊢
        have e1 : (putAll r.L (r.pend.take k)).length = r.L.length := putAll_len ..
        have e2 : (putAll r.L (r.pend.take (k + 1))).length = r.L.length := putAll_len ..
        rw [e1] at hN'
        rw [e2, hs.out]
        have := Now.rowSet (pre := [_]) hN' hqn (.string p.2)
        simpa using this
      have HS := Lib.hid hset
      have hq1 : (q : Int) < (r.L.length : Int) := by omega
      clear hset hN hrow hqt hq hpk hq0 cf r1 r2 hin hql hold
      go_wp2_with fail
      refine wp_region_still_tail 19 (by kernel_rfl) (by kernel_rfl) ?_
      simp only [List.take_succ_cons, List.take_zero, List.drop_succ_cons, List.drop_zero]
      change wpStill _ _ wr.drew _ _ _
      repeat (first | still_step)
      refine wpStill_nil ?_
      change wpList _ _ _ _ _ wr.drew
      go_wp2_with fail
      go_roundw
      case rel => exact ⟨k + 1, by omega, by go_num, HS.out.drew⟩
      case measure => simp [intOf]; omega
    · obtain rfl : k = r.pend.length := by omega
      rw [List.take_length] at hN
      have f1 := cf 1
      have f2 := cf 2
      have h1 := Now.set_ (pre := []) hN 1 (.slice none 0 0)
      have h2 := Now.set_ (pre := []) h1 2 (.slice none 0 0)
      have h3 : Now S w ((wr.setCell ⟨h, 1, none⟩ (.slice none 0 0)).setCell ⟨h, 2, none⟩ (.slice none 0 0)) (refParts h (.slice (some ⟨rL, 0, none⟩) r.L.length cL) (.slice none 0 0) (.slice none 0 0) (putAll r.L r.pend) [] r.use.left) := by
        unfold refParts
        have h4 := Now.rowNil (t' := 3) (size' := 1) (pre := [_, _]) h2
        have h5 := Now.rowNil (t' := 9) (size' := 1) (pre := [_, _, _]) h4
        show Now S w _ [_, Thing.row _ 1 _ (putAll r.L r.pend).length _, _, _]
        have e2 : (putAll r.L r.pend).length = r.L.length := putAll_len ..
        rw [e2] at h5 ⊢
        exact h5
      have HS := Lib.hid h3
      clear hN h1 h2 h3 cf hin
      go_wp2
      go_ret
      exact ⟨rfl, HS.out.refClose⟩
end Go.Proofs.YthlbciinpidedaaGreat
/- A disk as a thing: what each call makes of it. -/
namespace Go.Proofs.YthlbciinpidedaaGreat
set_option linter.unusedSimpArgs false
set_option linter.unusedVariables false
set_option maxRecDepth 100000
open Go.RowKit
attribute [local go_sem high] run_mx run_mn

section
variable {g : Nat} {d d' : Dsk} {f : Nat} {args : Array Value} {r : Value}
theorem dsk_loc (h : ∀ (b : Nat) (v : Value) (w : World), DskAt w g b v d → Calls Tryz.prog f args w fun e w' => e = .returned r ∧ ∃ v', DskAt w' g b v' d' ∧ Fr (foot g b v) w w' ∧ ∀ k, foot g b v' k → foot g b v k ∨ w.heap.size ≤ k) : Loc Tryz.prog f args (dskT g d) r (dskT g d') := by
  rintro w S ⟨b, v, hD, hS⟩
  refine (h b v w hD).mono fun e w' ⟨he, v', h1, h2, h3⟩ => ⟨he, foot g b v', ⟨foot g b v', fun _ => False, ⟨b, v', h1, fun _ => Iff.rfl⟩, fun _ h => h, fun _ _ h => h, fun _ => ⟨.inl, fun h => h.elim id False.elim⟩⟩, h2.mono (fun k _ hk => (hS k).2 hk), fun k hk => ?_⟩
  rcases h3 k hk with h | h
  · exact .inl ((hS k).2 h)
  · exact .inr h
theorem dsk_still (h : ∀ (b : Nat) (v : Value) (w : World), DskAt w g b v d → Calls Tryz.prog f args w fun e w' => e = .returned r ∧ Below w.heap.size w w') : Loc Tryz.prog f args (dskT g d) r (dskT g d) :=
  dsk_loc fun b v w hD => (h b v w hD).mono fun e w' ⟨he, hb⟩ => ⟨he, v, hD.below hb, Fr.of_below hb, fun _ h => .inl h⟩
end
theorem LWrite (g : Nat) (d : Dsk) (i : Int) (s : ByteArray) (hp : d.pend.length ≤ 1000000000) : Loc Tryz.prog 87 #[.pointer (some ⟨g, 0, none⟩), .int .i64 i, .string s] (dskT g d) (.int .i64 (d.writeE i s)) (dskT g (d.writeS i s)) :=
  dsk_loc fun b v w hD => (Write_all g b v d i s w hD hp)
theorem LFlush (g : Nat) (d : Dsk) (hp : d.pend.length ≤ 1000000000) : Loc Tryz.prog 85 #[.pointer (some ⟨g, 0, none⟩)] (dskT g d) (.int .i64 d.flushE) (dskT g d.flushS) :=
  dsk_loc fun b v w hD => (Flush_all g b v d w hD hp)
theorem LLimit (g : Nat) (d : Dsk) (n : Int) : Loc Tryz.prog 15 #[.pointer (some ⟨g, 0, none⟩), .int .i64 n] (dskT g d) (.tuple #[]) (dskT g (d.limit n)) :=
  dsk_loc fun b v w hD => (Limit_any g b v d n w hD).mono fun e w' ⟨he, h1, h2⟩ => ⟨he, v, h1, h2, fun _ h => .inl h⟩
theorem LRead (g : Nat) (d : Dsk) (i : Int) (hp : d.pend.length ≤ 1000000000) : Loc Tryz.prog 43 #[.pointer (some ⟨g, 0, none⟩), .int .i64 i] (dskT g d) (.tuple #[.string (d.readV i), .int .i64 (d.readE i)]) (dskT g d) :=
  dsk_still fun b v w hD => Read_all g b v d i w hD hp
theorem NPending (g : Nat) (d : Dsk) (w : World) (S : Nat → Prop) (h : (dskT g d).is w S) : Calls Tryz.prog 17 #[.pointer (some ⟨g, 0, none⟩)] w fun e w' => e = .returned (.int .i64 d.pend.length) ∧ Newer w w' := by
  obtain ⟨b, v, hD, _⟩ := h
  exact (Pending_any g b v d w hD).mono fun e w' ⟨he, hw⟩ => ⟨he, hw ▸ Newer.refl w⟩
theorem NLen (g : Nat) (d : Dsk) (w : World) (S : Nat → Prop) (h : (dskT g d).is w S) : Calls Tryz.prog 98 #[.pointer (some ⟨g, 0, none⟩)] w fun e w' => e = .returned (.int .i64 d.n) ∧ Newer w w' := by
  obtain ⟨b, v, hD, _⟩ := h
  exact (Len_any g b v d w hD).mono fun e w' ⟨he, hw⟩ => ⟨he, hw ▸ Newer.refl w⟩
end Go.Proofs.YthlbciinpidedaaGreat
